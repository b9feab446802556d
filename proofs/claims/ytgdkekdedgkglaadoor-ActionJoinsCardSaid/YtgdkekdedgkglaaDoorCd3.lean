/- A deterministic heap for the model, proved sound, and walks of the program over it: part 8. No condition. -/
import Derived.Test.YtgdkekdedgkglaaDoorAb1
import Derived.Test.YtgdkekdedgkglaaDoorAb2
import Derived.Test.YtgdkekdedgkglaaDoorAb3
import Derived.Test.YtgdkekdedgkglaaDoorAb5
import Derived.Test.YtgdkekdedgkglaaDoorCd1
import Derived.Test.YtgdkekdedgkglaaDoorAb4
import Derived.Test.YtgdkekdedgkglaaDoorCd2
set_option linter.unusedVariables false
set_option linter.unusedSimpArgs false
set_option linter.unusedSectionVars false
section
/- Rules of walks, printed by a program of ours: group ARef. -/
namespace Go.Proofs.YtgdkekdedgkglaaDoor
open Go.Abs
set_option maxRecDepth 100000
theorem r_brickyardref13_Parse {p1 : Option Addr} {m2 : Nat} {m3 : Nat} {h : AW} {Q : Value → AW → Prop} (H : EvQ P f_brickyardref13_Check [Value.slice p1 m2 m3] (AW.addVar h [Value.int IntKind.i64 0, Value.int
  IntKind.i64 0]) fun v4 h5 => vAgg v4 fun l6 => lC l6 fun v7 l8 => vInt IntKind.i64 v7 fun n9 => lC l8 fun v10 l11 => vInt IntKind.i64 v10 fun n12 => lN l11 (oB (AW.wrL (AW.addVar
  h5 [Value.int IntKind.i64 0, Value.int IntKind.i64 0]) (AW.next h5) 0 [Value.int IntKind.i64 n9, Value.int IntKind.i64 n12]) fun h13 => oB (AW.rd h13 (AW.next h5) 0) fun v14 =>
  vInt IntKind.i64 v14 fun n15 => bC (n15 != 0) (oB (AW.rd h13 (AW.next h5) 0) fun v16 => vInt IntKind.i64 v16 fun n17 => oB (AW.rd h13 (AW.next h5) 1) fun v18 => vInt IntKind.i64
  v18 fun n19 => oB (AW.wrL h13 (AW.next h) 0 [Value.int IntKind.i64 n17, Value.int IntKind.i64 n19]) fun h20 => oB (AW.rd h20 (AW.next h) 0) fun v21 => vInt IntKind.i64 v21 fun
  n22 => oB (AW.rd h20 (AW.next h) 1) fun v23 => vInt IntKind.i64 v23 fun n24 => Q (Value.tuple (Array.mk [Value.slice none 0 0, Value.agg (Array.mk [Value.int IntKind.i64 n22,
  Value.int IntKind.i64 n24])])) h20) (EvQ P f_brickyardref13_Until [Value.slice p1 m2 m3, Value.int IntKind.i64 0] h13 fun v25 h26 => vTup v25 fun l27 => lC l27 fun v28 l29 => vSl v28 fun p30 m31
  m32 => lC l29 fun v33 l34 => vInt IntKind.i64 v33 fun n35 => lN l34 (oB (AW.rd h26 (AW.next h5) 0) fun v36 => vInt IntKind.i64 v36 fun n37 => oB (AW.rd h26 (AW.next h5) 1) fun
  v38 => vInt IntKind.i64 v38 fun n39 => oB (AW.wrL h26 (AW.next h) 0 [Value.int IntKind.i64 n37, Value.int IntKind.i64 n39]) fun h40 => oB (AW.rd h40 (AW.next h) 0) fun v41 =>
  vInt IntKind.i64 v41 fun n42 => oB (AW.rd h40 (AW.next h) 1) fun v43 => vInt IntKind.i64 v43 fun n44 => Q (Value.tuple (Array.mk [Value.slice p30 m31 m32, Value.agg (Array.mk
  [Value.int IntKind.i64 n42, Value.int IntKind.i64 n44])])) h40)))) : EvQ P f_brickyardref13_Parse [Value.slice p1 m2 m3] h Q := fn_ok (n := 400) (ann := annOf []) (Eq.mp (by kernel_rfl) H)
theorem r_brickyardref13_Same {p1 : Option Addr} {m2 : Nat} {m3 : Nat} {p4 : Option Addr} {m5 : Nat} {m6 : Nat} {h : AW} {Q : Value → AW → Prop} (H : bC ((↑m2 : Int) != (↑m5 : Int)) (Q
  (Value.bool false) h) (unitAt P f_brickyardref13_Same 4 [0, 1, 5] [Value.slice p1 m2 m3, Value.slice p4 m5 m6, Value.int IntKind.i64 0] h Q)) : EvQ P f_brickyardref13_Same [Value.slice p1 m2 m3, Value.slice p4 m5
  m6] h Q := fn_ok (n := 400) (ann := annOf [(4, [0, 1, 5]), (10, [0, 1, 5, 6, 7, 8])]) (Eq.mp (by kernel_rfl) H)
theorem r_brickyardref13_Same_4 {p1 : Option Addr} {m2 : Nat} {m3 : Nat} {p4 : Option Addr} {m5 : Nat} {m6 : Nat} {n7 : Int} {h : AW} {Q : Value → AW → Prop} (H : bC (decide (n7 < (↑m2 : Int)))
  (aP p1 fun m8 m9 => oB (natIdx n7 m2) fun m10 => oB (AW.rd h m8 (m9 + m10 * 4)) fun v11 => vInt IntKind.i64 v11 fun n12 => oB (AW.rd h m8 (m9 + m10 * 4 + 1)) fun v13 => vSl v13
  fun p14 m15 m16 => oB (AW.rd h m8 (m9 + m10 * 4 + 1 + 1)) fun v17 => vInt IntKind.i64 v17 fun n18 => oB (AW.rd h m8 (m9 + m10 * 4 + 1 + 1 + 1)) fun v19 => vSl v19 fun p20 m21 m22
  => aP p4 fun m23 m24 => oB (natIdx n7 m5) fun m25 => oB (AW.rd h m23 (m24 + m25 * 4)) fun v26 => vInt IntKind.i64 v26 fun n27 => oB (AW.rd h m23 (m24 + m25 * 4 + 1)) fun v28 =>
  vSl v28 fun p29 m30 m31 => oB (AW.rd h m23 (m24 + m25 * 4 + 1 + 1)) fun v32 => vInt IntKind.i64 v32 fun n33 => oB (AW.rd h m23 (m24 + m25 * 4 + 1 + 1 + 1)) fun v34 => vSl v34 fun
  p35 m36 m37 => oB (AW.wrL (AW.addVar (AW.addVar h [Value.int IntKind.i64 0, Value.slice none 0 0, Value.int IntKind.i64 0, Value.slice none 0 0]) [Value.int IntKind.i64 0,
  Value.slice none 0 0, Value.int IntKind.i64 0, Value.slice none 0 0]) (AW.next h) 0 [Value.int IntKind.i64 n12, Value.slice p14 m15 m16, Value.int IntKind.i64 n18, Value.slice
  p20 m21 m22]) fun h38 => oB (AW.wrL h38 (AW.next (AW.addVar h [Value.int IntKind.i64 0, Value.slice none 0 0, Value.int IntKind.i64 0, Value.slice none 0 0])) 0 [Value.int
  IntKind.i64 n27, Value.slice p29 m30 m31, Value.int IntKind.i64 n33, Value.slice p35 m36 m37]) fun h39 => oB (AW.rd (AW.addVar h [Value.int IntKind.i64 0, Value.slice none 0 0,
  Value.int IntKind.i64 0, Value.slice none 0 0]) m8 (m9 + m10 * 4)) fun v40 => vInt IntKind.i64 v40 fun n41 => oB (AW.rd (AW.addVar h [Value.int IntKind.i64 0, Value.slice none 0
  0, Value.int IntKind.i64 0, Value.slice none 0 0]) m8 (m9 + m10 * 4 + 1)) fun v42 => vSl v42 fun p43 m44 m45 => oB (AW.rd (AW.addVar h [Value.int IntKind.i64 0, Value.slice none
  0 0, Value.int IntKind.i64 0, Value.slice none 0 0]) m8 (m9 + m10 * 4 + 1 + 1)) fun v46 => vInt IntKind.i64 v46 fun n47 => oB (AW.rd (AW.addVar h [Value.int IntKind.i64 0,
  Value.slice none 0 0, Value.int IntKind.i64 0, Value.slice none 0 0]) m8 (m9 + m10 * 4 + 1 + 1 + 1)) fun v48 => vSl v48 fun p49 m50 m51 => Value.agg (Array.mk [Value.int
  IntKind.i64 n41, Value.slice p43 m44 m45, Value.int IntKind.i64 n47, Value.slice p49 m50 m51]) = Value.agg (Array.mk [Value.int IntKind.i64 n12, Value.slice p14 m15 m16,
  Value.int IntKind.i64 n18, Value.slice p20 m21 m22]) ∧ oB (AW.rd (AW.addVar (AW.addVar h [Value.int IntKind.i64 0, Value.slice none 0 0, Value.int IntKind.i64 0, Value.slice none
  0 0]) [Value.int IntKind.i64 0, Value.slice none 0 0, Value.int IntKind.i64 0, Value.slice none 0 0]) m8 (m9 + m10 * 4)) fun v52 => vInt IntKind.i64 v52 fun n53 => oB (AW.rd
  (AW.addVar (AW.addVar h [Value.int IntKind.i64 0, Value.slice none 0 0, Value.int IntKind.i64 0, Value.slice none 0 0]) [Value.int IntKind.i64 0, Value.slice none 0 0, Value.int
  IntKind.i64 0, Value.slice none 0 0]) m8 (m9 + m10 * 4 + 1)) fun v54 => vSl v54 fun p55 m56 m57 => oB (AW.rd (AW.addVar (AW.addVar h [Value.int IntKind.i64 0, Value.slice none 0
  0, Value.int IntKind.i64 0, Value.slice none 0 0]) [Value.int IntKind.i64 0, Value.slice none 0 0, Value.int IntKind.i64 0, Value.slice none 0 0]) m8 (m9 + m10 * 4 + 1 + 1)) fun
  v58 => vInt IntKind.i64 v58 fun n59 => oB (AW.rd (AW.addVar (AW.addVar h [Value.int IntKind.i64 0, Value.slice none 0 0, Value.int IntKind.i64 0, Value.slice none 0 0])
  [Value.int IntKind.i64 0, Value.slice none 0 0, Value.int IntKind.i64 0, Value.slice none 0 0]) m8 (m9 + m10 * 4 + 1 + 1 + 1)) fun v60 => vSl v60 fun p61 m62 m63 => Value.agg
  (Array.mk [Value.int IntKind.i64 n53, Value.slice p55 m56 m57, Value.int IntKind.i64 n59, Value.slice p61 m62 m63]) = Value.agg (Array.mk [Value.int IntKind.i64 n12, Value.slice
  p14 m15 m16, Value.int IntKind.i64 n18, Value.slice p20 m21 m22]) ∧ oB (AW.rd (AW.addVar h [Value.int IntKind.i64 0, Value.slice none 0 0, Value.int IntKind.i64 0, Value.slice
  none 0 0]) m23 (m24 + m25 * 4)) fun v64 => vInt IntKind.i64 v64 fun n65 => oB (AW.rd (AW.addVar h [Value.int IntKind.i64 0, Value.slice none 0 0, Value.int IntKind.i64 0,
  Value.slice none 0 0]) m23 (m24 + m25 * 4 + 1)) fun v66 => vSl v66 fun p67 m68 m69 => oB (AW.rd (AW.addVar h [Value.int IntKind.i64 0, Value.slice none 0 0, Value.int IntKind.i64
  0, Value.slice none 0 0]) m23 (m24 + m25 * 4 + 1 + 1)) fun v70 => vInt IntKind.i64 v70 fun n71 => oB (AW.rd (AW.addVar h [Value.int IntKind.i64 0, Value.slice none 0 0, Value.int
  IntKind.i64 0, Value.slice none 0 0]) m23 (m24 + m25 * 4 + 1 + 1 + 1)) fun v72 => vSl v72 fun p73 m74 m75 => Value.agg (Array.mk [Value.int IntKind.i64 n65, Value.slice p67 m68
  m69, Value.int IntKind.i64 n71, Value.slice p73 m74 m75]) = Value.agg (Array.mk [Value.int IntKind.i64 n27, Value.slice p29 m30 m31, Value.int IntKind.i64 n33, Value.slice p35
  m36 m37]) ∧ oB (AW.rd (AW.addVar (AW.addVar h [Value.int IntKind.i64 0, Value.slice none 0 0, Value.int IntKind.i64 0, Value.slice none 0 0]) [Value.int IntKind.i64 0,
  Value.slice none 0 0, Value.int IntKind.i64 0, Value.slice none 0 0]) m23 (m24 + m25 * 4)) fun v76 => vInt IntKind.i64 v76 fun n77 => oB (AW.rd (AW.addVar (AW.addVar h [Value.int
  IntKind.i64 0, Value.slice none 0 0, Value.int IntKind.i64 0, Value.slice none 0 0]) [Value.int IntKind.i64 0, Value.slice none 0 0, Value.int IntKind.i64 0, Value.slice none 0
  0]) m23 (m24 + m25 * 4 + 1)) fun v78 => vSl v78 fun p79 m80 m81 => oB (AW.rd (AW.addVar (AW.addVar h [Value.int IntKind.i64 0, Value.slice none 0 0, Value.int IntKind.i64 0,
  Value.slice none 0 0]) [Value.int IntKind.i64 0, Value.slice none 0 0, Value.int IntKind.i64 0, Value.slice none 0 0]) m23 (m24 + m25 * 4 + 1 + 1)) fun v82 => vInt IntKind.i64
  v82 fun n83 => oB (AW.rd (AW.addVar (AW.addVar h [Value.int IntKind.i64 0, Value.slice none 0 0, Value.int IntKind.i64 0, Value.slice none 0 0]) [Value.int IntKind.i64 0,
  Value.slice none 0 0, Value.int IntKind.i64 0, Value.slice none 0 0]) m23 (m24 + m25 * 4 + 1 + 1 + 1)) fun v84 => vSl v84 fun p85 m86 m87 => Value.agg (Array.mk [Value.int
  IntKind.i64 n77, Value.slice p79 m80 m81, Value.int IntKind.i64 n83, Value.slice p85 m86 m87]) = Value.agg (Array.mk [Value.int IntKind.i64 n27, Value.slice p29 m30 m31,
  Value.int IntKind.i64 n33, Value.slice p35 m36 m37]) ∧ oB (AW.rd h38 m23 (m24 + m25 * 4)) fun v88 => vInt IntKind.i64 v88 fun n89 => oB (AW.rd h38 m23 (m24 + m25 * 4 + 1)) fun
  v90 => vSl v90 fun p91 m92 m93 => oB (AW.rd h38 m23 (m24 + m25 * 4 + 1 + 1)) fun v94 => vInt IntKind.i64 v94 fun n95 => oB (AW.rd h38 m23 (m24 + m25 * 4 + 1 + 1 + 1)) fun v96 =>
  vSl v96 fun p97 m98 m99 => Value.agg (Array.mk [Value.int IntKind.i64 n89, Value.slice p91 m92 m93, Value.int IntKind.i64 n95, Value.slice p97 m98 m99]) = Value.agg (Array.mk
  [Value.int IntKind.i64 n27, Value.slice p29 m30 m31, Value.int IntKind.i64 n33, Value.slice p35 m36 m37]) ∧ oB (AW.rd h39 (AW.next h) 0) fun v100 => vInt IntKind.i64 v100 fun
  n101 => oB (AW.rd h39 (AW.next (AW.addVar h [Value.int IntKind.i64 0, Value.slice none 0 0, Value.int IntKind.i64 0, Value.slice none 0 0])) 0) fun v102 => vInt IntKind.i64 v102
  fun n103 => bC (n101 != n103) (Q (Value.bool false) h39) (oB (AW.rd h39 (AW.next h) 2) fun v104 => vInt IntKind.i64 v104 fun n105 => oB (AW.rd h39 (AW.next (AW.addVar h
  [Value.int IntKind.i64 0, Value.slice none 0 0, Value.int IntKind.i64 0, Value.slice none 0 0])) 2) fun v106 => vInt IntKind.i64 v106 fun n107 => bC (n105 != n107) (Q (Value.bool
  false) h39) (oB (AW.rd h39 (AW.next h) 1) fun v108 => vSl v108 fun p109 m110 m111 => oB (AW.rd h39 (AW.next (AW.addVar h [Value.int IntKind.i64 0, Value.slice none 0 0, Value.int
  IntKind.i64 0, Value.slice none 0 0])) 1) fun v112 => vSl v112 fun p113 m114 m115 => bC ((↑m110 : Int) != (↑m114 : Int)) (Q (Value.bool false) h39) (oB (AW.rd h39 (AW.next h) 3)
  fun v116 => vSl v116 fun p117 m118 m119 => oB (AW.rd h39 (AW.next (AW.addVar h [Value.int IntKind.i64 0, Value.slice none 0 0, Value.int IntKind.i64 0, Value.slice none 0 0])) 3)
  fun v120 => vSl v120 fun p121 m122 m123 => EvQ P f_brickyardref13_Same [Value.slice p117 m118 m119, Value.slice p121 m122 m123] h39 fun v124 h125 => vBool v124 fun b126 => bC (!b126) (Q
  (Value.bool false) h125) (unitAt P f_brickyardref13_Same 10 [0, 1, 5, 6, 7, 8] [Value.slice p1 m2 m3, Value.slice p4 m5 m6, Value.int IntKind.i64 n7, Value.pointer (some (Addr.mk (AW.next h) 0
  none)), Value.pointer (some (Addr.mk (AW.next (AW.addVar h [Value.int IntKind.i64 0, Value.slice none 0 0, Value.int IntKind.i64 0, Value.slice none 0 0])) 0 none)), Value.int
  IntKind.i64 0] h125 Q))))) (Q (Value.bool true) h)) : unitAt P f_brickyardref13_Same 4 [0, 1, 5] [Value.slice p1 m2 m3, Value.slice p4 m5 m6, Value.int IntKind.i64 n7] h Q := unit_ok (n := 400)
  (ann := annOf [(4, [0, 1, 5]), (10, [0, 1, 5, 6, 7, 8])]) (Eq.mp (by kernel_rfl) H)
theorem r_brickyardref13_Same_10 {p1 : Option Addr} {m2 : Nat} {m3 : Nat} {p4 : Option Addr} {m5 : Nat} {m6 : Nat} {n7 : Int} {m8 : Nat} {m9 : Nat} {n10 : Int} {h : AW} {Q : Value → AW → Prop} (H
  : oB (AW.rd h m8 1) fun v11 => vSl v11 fun p12 m13 m14 => bC (decide (n10 < (↑m13 : Int))) (oB (AW.rd h m8 1) fun v15 => vSl v15 fun p16 m17 m18 => aP p16 fun m19 m20 => oB
  (natIdx n10 m17) fun m21 => oB (AW.rd h m19 (m20 + m21 * 1)) fun v22 => vStr v22 fun s23 => oB (AW.rd h m9 1) fun v24 => vSl v24 fun p25 m26 m27 => aP p25 fun m28 m29 => oB
  (natIdx n10 m26) fun m30 => oB (AW.rd h m28 (m29 + m30 * 1)) fun v31 => vStr v31 fun s32 => bC (!bEq s23 s32) (Q (Value.bool false) h) (unitAt P f_brickyardref13_Same 10 [0, 1, 5, 6, 7, 8]
  [Value.slice p1 m2 m3, Value.slice p4 m5 m6, Value.int IntKind.i64 n7, Value.pointer (some (Addr.mk m8 0 none)), Value.pointer (some (Addr.mk m9 0 none)), Value.int IntKind.i64
  (IntKind.wrap IntKind.i64 (n10 + 1))] h Q)) (unitAt P f_brickyardref13_Same 4 [0, 1, 5] [Value.slice p1 m2 m3, Value.slice p4 m5 m6, Value.int IntKind.i64 (IntKind.wrap IntKind.i64 (n7 + 1))] h
  Q)) : unitAt P f_brickyardref13_Same 10 [0, 1, 5, 6, 7, 8] [Value.slice p1 m2 m3, Value.slice p4 m5 m6, Value.int IntKind.i64 n7, Value.pointer (some (Addr.mk m8 0 none)), Value.pointer (some
  (Addr.mk m9 0 none)), Value.int IntKind.i64 n10] h Q := unit_ok (n := 400) (ann := annOf [(4, [0, 1, 5]), (10, [0, 1, 5, 6, 7, 8])]) (Eq.mp (by kernel_rfl) H)
theorem r_brickyardref13_Digits {n1 : Int} {h : AW} {Q : Value → AW → Prop} (H : oB (AW.bytes (AW.addVar h [Value.int IntKind.u8 (IntKind.wrap IntKind.u8 (IntKind.wrap IntKind.i64 (48 + Int.tmod n1
  10)))]) (some (Addr.mk (AW.next h) 0 none)) 1) fun s2 => bC (decide (n1 ≥ 10)) (EvQ P f_brickyardref13_Digits [Value.int IntKind.i64 (IntKind.wrap IntKind.i64 (Int.tdiv n1 10))] (AW.addVar h
  [Value.int IntKind.u8 (IntKind.wrap IntKind.u8 (IntKind.wrap IntKind.i64 (48 + Int.tmod n1 10)))]) fun v3 h4 => vStr v3 fun s5 => bC (Nat.ble (ByteArray.size s5 + ByteArray.size
  s2) 9223372036854775807) (Q (Value.string (s5 ++ s2)) h4) False) (Q (Value.string s2) (AW.addVar h [Value.int IntKind.u8 (IntKind.wrap IntKind.u8 (IntKind.wrap IntKind.i64 (48 +
  Int.tmod n1 10)))]))) : EvQ P f_brickyardref13_Digits [Value.int IntKind.i64 n1] h Q := fn_ok (n := 400) (ann := annOf []) (Eq.mp (by kernel_rfl) H)
theorem r_brickyardref13_Lines {p1 : Option Addr} {m2 : Nat} {m3 : Nat} {h : AW} {Q : Value → AW → Prop} (H : EvQ P f_brickyardref13_May [Value.slice p1 m2 m3] h fun v4 h5 => vBool v4 fun b6 => bC (!b6) (Q
  (Value.tuple (Array.mk [Value.slice none 0 0, Value.int IntKind.i64 2])) h5) (EvQ P f_brickyardref13_all [Value.slice p1 m2 m3] h5 fun v7 h8 => vSl v7 fun p9 m10 m11 => Q (Value.tuple (Array.mk
  [Value.slice p9 m10 m11, Value.int IntKind.i64 0])) h8)) : EvQ P f_brickyardref13_Lines [Value.slice p1 m2 m3] h Q := fn_ok (n := 400) (ann := annOf []) (Eq.mp (by kernel_rfl) H)
theorem r_brickyardref13_Print {p1 : Option Addr} {m2 : Nat} {m3 : Nat} {h : AW} {Q : Value → AW → Prop} (H : EvQ P f_brickyardref13_Lines [Value.slice p1 m2 m3] h fun v4 h5 => vTup v4 fun l6 => lC l6 fun v7 l8 =>
  vSl v7 fun p9 m10 m11 => lC l8 fun v12 l13 => vInt IntKind.i64 v12 fun n14 => lN l13 (unitAt P f_brickyardref13_Print 4 [4, 5, 6, 7] [Value.slice p9 m10 m11, Value.int IntKind.i64 n14, Value.slice
  none 0 0, Value.int IntKind.i64 0] h5 Q)) : EvQ P f_brickyardref13_Print [Value.slice p1 m2 m3] h Q := fn_ok (n := 400) (ann := annOf [(4, [4, 5, 6, 7]), (7, [4, 5, 6, 7, 8]), (11, [4, 5, 6, 7,
  8])]) (Eq.mp (by kernel_rfl) H)
theorem r_brickyardref13_Print_4 {p1 : Option Addr} {m2 : Nat} {m3 : Nat} {n4 : Int} {p5 : Option Addr} {m6 : Nat} {m7 : Nat} {n8 : Int} {h : AW} {Q : Value → AW → Prop} (H : bC (decide (n8 < (↑m2
  : Int))) (unitAt P f_brickyardref13_Print 7 [4, 5, 6, 7, 8] [Value.slice p1 m2 m3, Value.int IntKind.i64 n4, Value.slice p5 m6 m7, Value.int IntKind.i64 n8, Value.int IntKind.i64 0] h Q) (oB
  (AW.bytes h p5 m6) fun s9 => Q (Value.tuple (Array.mk [Value.string s9, Value.int IntKind.i64 n4])) h)) : unitAt P f_brickyardref13_Print 4 [4, 5, 6, 7] [Value.slice p1 m2 m3, Value.int
  IntKind.i64 n4, Value.slice p5 m6 m7, Value.int IntKind.i64 n8] h Q := unit_ok (n := 400) (ann := annOf [(4, [4, 5, 6, 7]), (7, [4, 5, 6, 7, 8]), (11, [4, 5, 6, 7, 8])]) (Eq.mp
  (by kernel_rfl) H)
theorem r_brickyardref13_Print_7 {p1 : Option Addr} {m2 : Nat} {m3 : Nat} {n4 : Int} {p5 : Option Addr} {m6 : Nat} {m7 : Nat} {n8 : Int} {n9 : Int} {h : AW} {Q : Value → AW → Prop} (H : aP p1 fun
  m10 m11 => oB (natIdx n8 m2) fun m12 => oB (AW.rd h m10 (m11 + m12 * 1)) fun v13 => vSl v13 fun p14 m15 m16 => bC (decide (n9 < (↑m15 : Int))) (bC (decide (n9 > 0)) (oP (appendB
  P (AW.addVar h [Value.int IntKind.u8 32]) (Array.mk [ty_sl_uint8, ty_sl_uint8]) [Value.slice p5 m6 m7, Value.slice (some (Addr.mk (AW.next h) 0 none)) 1 1]) fun v17 h18 => vSl v17 fun p19
  m20 m21 => unitAt P f_brickyardref13_Print 11 [4, 5, 6, 7, 8] [Value.slice p1 m2 m3, Value.int IntKind.i64 n4, Value.slice p19 m20 m21, Value.int IntKind.i64 n8, Value.int IntKind.i64 n9] h18 Q)
  (unitAt P f_brickyardref13_Print 11 [4, 5, 6, 7, 8] [Value.slice p1 m2 m3, Value.int IntKind.i64 n4, Value.slice p5 m6 m7, Value.int IntKind.i64 n8, Value.int IntKind.i64 n9] h Q)) (oP (appendB P
  (AW.addVar h [Value.int IntKind.u8 10]) (Array.mk [ty_sl_uint8, ty_sl_uint8]) [Value.slice p5 m6 m7, Value.slice (some (Addr.mk (AW.next h) 0 none)) 1 1]) fun v22 h23 => vSl v22 fun p24
  m25 m26 => unitAt P f_brickyardref13_Print 4 [4, 5, 6, 7] [Value.slice p1 m2 m3, Value.int IntKind.i64 n4, Value.slice p24 m25 m26, Value.int IntKind.i64 (IntKind.wrap IntKind.i64 (n8 + 1))] h23
  Q)) : unitAt P f_brickyardref13_Print 7 [4, 5, 6, 7, 8] [Value.slice p1 m2 m3, Value.int IntKind.i64 n4, Value.slice p5 m6 m7, Value.int IntKind.i64 n8, Value.int IntKind.i64 n9] h Q := unit_ok (n
  := 400) (ann := annOf [(4, [4, 5, 6, 7]), (7, [4, 5, 6, 7, 8]), (11, [4, 5, 6, 7, 8])]) (Eq.mp (by kernel_rfl) H)
theorem r_brickyardref13_Print_11 {p1 : Option Addr} {m2 : Nat} {m3 : Nat} {n4 : Int} {p5 : Option Addr} {m6 : Nat} {m7 : Nat} {n8 : Int} {n9 : Int} {h : AW} {Q : Value → AW → Prop} (H : aP p1 fun
  m10 m11 => oB (natIdx n8 m2) fun m12 => oB (AW.rd h m10 (m11 + m12 * 1)) fun v13 => vSl v13 fun p14 m15 m16 => aP p14 fun m17 m18 => oB (natIdx n9 m15) fun m19 => oB (AW.rd h m17
  (m18 + m19 * 1)) fun v20 => vStr v20 fun s21 => EvQ P f_brickyardref11_Show [Value.string s21] h fun v22 h23 => vStr v22 fun s24 => oP (appendB P h23 (Array.mk [ty_sl_uint8, ty_string]) [Value.slice p5 m6
  m7, Value.string s24]) fun v25 h26 => vSl v25 fun p27 m28 m29 => unitAt P f_brickyardref13_Print 7 [4, 5, 6, 7, 8] [Value.slice p1 m2 m3, Value.int IntKind.i64 n4, Value.slice p27 m28 m29,
  Value.int IntKind.i64 n8, Value.int IntKind.i64 (IntKind.wrap IntKind.i64 (n9 + 1))] h26 Q) : unitAt P f_brickyardref13_Print 11 [4, 5, 6, 7, 8] [Value.slice p1 m2 m3, Value.int IntKind.i64 n4,
  Value.slice p5 m6 m7, Value.int IntKind.i64 n8, Value.int IntKind.i64 n9] h Q := unit_ok (n := 400) (ann := annOf [(4, [4, 5, 6, 7]), (7, [4, 5, 6, 7, 8]), (11, [4, 5, 6, 7,
  8])]) (Eq.mp (by kernel_rfl) H)
theorem r_brickyardref13_May {p1 : Option Addr} {m2 : Nat} {m3 : Nat} {h : AW} {Q : Value → AW → Prop} (H : EvQ P f_brickyardref13_one [Value.slice p1 m2 m3] h fun v4 h5 => vBool v4 fun b6 => bC b6 (EvQ P f_brickyardref13_Size
  [Value.slice p1 m2 m3] h5 fun v7 h8 => vInt IntKind.i64 v7 fun n9 => bC (decide (n9 ≤ 256)) (EvQ P f_brickyardref13_Deep [Value.slice p1 m2 m3] h8 fun v10 h11 => vInt IntKind.i64 v10 fun n12 => Q
  (Value.bool (decide (n12 ≤ 8))) h11) (Q (Value.bool false) h8)) (Q (Value.bool false) h5)) : EvQ P f_brickyardref13_May [Value.slice p1 m2 m3] h Q := fn_ok (n := 400) (ann := annOf []) (Eq.mp
  (by kernel_rfl) H)
theorem r_brickyardref13_Size {p1 : Option Addr} {m2 : Nat} {m3 : Nat} {h : AW} {Q : Value → AW → Prop} (H : unitAt P f_brickyardref13_Size 3 [0, 3, 4] [Value.slice p1 m2 m3, Value.int IntKind.i64 0, Value.int
  IntKind.i64 0] h Q) : EvQ P f_brickyardref13_Size [Value.slice p1 m2 m3] h Q := fn_ok (n := 400) (ann := annOf [(3, [0, 3, 4])]) (Eq.mp (by kernel_rfl) H)
theorem r_brickyardref13_Size_3 {p1 : Option Addr} {m2 : Nat} {m3 : Nat} {n4 : Int} {n5 : Int} {h : AW} {Q : Value → AW → Prop} (H : bC (decide (n5 < (↑m2 : Int))) (aP p1 fun m6 m7 => oB (natIdx
  n5 m2) fun m8 => oB (AW.rd h m6 (m7 + m8 * 4 + 3)) fun v9 => vSl v9 fun p10 m11 m12 => EvQ P f_brickyardref13_Size [Value.slice p10 m11 m12] h fun v13 h14 => vInt IntKind.i64 v13 fun n15 =>
  unitAt P f_brickyardref13_Size 3 [0, 3, 4] [Value.slice p1 m2 m3, Value.int IntKind.i64 (IntKind.wrap IntKind.i64 (n4 + IntKind.wrap IntKind.i64 (1 + n15))), Value.int IntKind.i64 (IntKind.wrap
  IntKind.i64 (n5 + 1))] h14 Q) (Q (Value.int IntKind.i64 n4) h)) : unitAt P f_brickyardref13_Size 3 [0, 3, 4] [Value.slice p1 m2 m3, Value.int IntKind.i64 n4, Value.int IntKind.i64 n5] h Q :=
  unit_ok (n := 400) (ann := annOf [(3, [0, 3, 4])]) (Eq.mp (by kernel_rfl) H)
theorem r_brickyardref13_Deep {p1 : Option Addr} {m2 : Nat} {m3 : Nat} {h : AW} {Q : Value → AW → Prop} (H : unitAt P f_brickyardref13_Deep 3 [0, 3, 4] [Value.slice p1 m2 m3, Value.int IntKind.i64 0, Value.int
  IntKind.i64 0] h Q) : EvQ P f_brickyardref13_Deep [Value.slice p1 m2 m3] h Q := fn_ok (n := 400) (ann := annOf [(3, [0, 3, 4])]) (Eq.mp (by kernel_rfl) H)
theorem r_brickyardref13_Deep_3 {p1 : Option Addr} {m2 : Nat} {m3 : Nat} {n4 : Int} {n5 : Int} {h : AW} {Q : Value → AW → Prop} (H : bC (decide (n5 < (↑m2 : Int))) (aP p1 fun m6 m7 => oB (natIdx
  n5 m2) fun m8 => oB (AW.rd h m6 (m7 + m8 * 4)) fun v9 => vInt IntKind.i64 v9 fun n10 => EvQ P f_brickyardref13_Opens [Value.int IntKind.i64 n10] h fun v11 h12 => vBool v11 fun b13 => bC b13 (aP p1
  fun m14 m15 => oB (natIdx n5 m2) fun m16 => oB (AW.rd h12 m14 (m15 + m16 * 4 + 3)) fun v17 => vSl v17 fun p18 m19 m20 => EvQ P f_brickyardref13_Deep [Value.slice p18 m19 m20] h12 fun v21 h22 =>
  vInt IntKind.i64 v21 fun n23 => unitAt P f_brickyardref13_Deep 3 [0, 3, 4] [Value.slice p1 m2 m3, Value.int IntKind.i64 (if IntKind.wrap IntKind.i64 (1 + n23) > n4 then IntKind.wrap IntKind.i64
  (1 + n23) else n4), Value.int IntKind.i64 (IntKind.wrap IntKind.i64 (n5 + 1))] h22 Q) (unitAt P f_brickyardref13_Deep 3 [0, 3, 4] [Value.slice p1 m2 m3, Value.int IntKind.i64 n4, Value.int
  IntKind.i64 (IntKind.wrap IntKind.i64 (n5 + 1))] h12 Q)) (Q (Value.int IntKind.i64 n4) h)) : unitAt P f_brickyardref13_Deep 3 [0, 3, 4] [Value.slice p1 m2 m3, Value.int IntKind.i64 n4, Value.int
  IntKind.i64 n5] h Q := unit_ok (n := 400) (ann := annOf [(3, [0, 3, 4])]) (Eq.mp (by kernel_rfl) H)
theorem r_brickyardref13_Alike {p1 : Option Addr} {m2 : Nat} {m3 : Nat} {p4 : Option Addr} {m5 : Nat} {m6 : Nat} {h : AW} {Q : Value → AW → Prop} (H : bC ((↑m2 : Int) != (↑m5 : Int)) (Q
  (Value.bool false) h) (unitAt P f_brickyardref13_Alike 4 [0, 1, 5] [Value.slice p1 m2 m3, Value.slice p4 m5 m6, Value.int IntKind.i64 0] h Q)) : EvQ P f_brickyardref13_Alike [Value.slice p1 m2 m3, Value.slice p4 m5
  m6] h Q := fn_ok (n := 400) (ann := annOf [(4, [0, 1, 5]), (9, [0, 1, 5, 6])]) (Eq.mp (by kernel_rfl) H)
theorem r_brickyardref13_Alike_4 {p1 : Option Addr} {m2 : Nat} {m3 : Nat} {p4 : Option Addr} {m5 : Nat} {m6 : Nat} {n7 : Int} {h : AW} {Q : Value → AW → Prop} (H : bC (decide (n7 < (↑m2 : Int)))
  (aP p1 fun m8 m9 => oB (natIdx n7 m2) fun m10 => oB (AW.rd h m8 (m9 + m10 * 1)) fun v11 => vSl v11 fun p12 m13 m14 => aP p4 fun m15 m16 => oB (natIdx n7 m5) fun m17 => oB (AW.rd
  h m15 (m16 + m17 * 1)) fun v18 => vSl v18 fun p19 m20 m21 => bC ((↑m13 : Int) != (↑m20 : Int)) (Q (Value.bool false) h) (unitAt P f_brickyardref13_Alike 9 [0, 1, 5, 6] [Value.slice p1 m2 m3,
  Value.slice p4 m5 m6, Value.int IntKind.i64 n7, Value.int IntKind.i64 0] h Q)) (Q (Value.bool true) h)) : unitAt P f_brickyardref13_Alike 4 [0, 1, 5] [Value.slice p1 m2 m3, Value.slice p4 m5 m6,
  Value.int IntKind.i64 n7] h Q := unit_ok (n := 400) (ann := annOf [(4, [0, 1, 5]), (9, [0, 1, 5, 6])]) (Eq.mp (by kernel_rfl) H)
theorem r_brickyardref13_Alike_9 {p1 : Option Addr} {m2 : Nat} {m3 : Nat} {p4 : Option Addr} {m5 : Nat} {m6 : Nat} {n7 : Int} {n8 : Int} {h : AW} {Q : Value → AW → Prop} (H : aP p1 fun m9 m10 =>
  oB (natIdx n7 m2) fun m11 => oB (AW.rd h m9 (m10 + m11 * 1)) fun v12 => vSl v12 fun p13 m14 m15 => bC (decide (n8 < (↑m14 : Int))) (aP p1 fun m16 m17 => oB (natIdx n7 m2) fun m18
  => oB (AW.rd h m16 (m17 + m18 * 1)) fun v19 => vSl v19 fun p20 m21 m22 => aP p20 fun m23 m24 => oB (natIdx n8 m21) fun m25 => oB (AW.rd h m23 (m24 + m25 * 1)) fun v26 => vStr v26
  fun s27 => aP p4 fun m28 m29 => oB (natIdx n7 m5) fun m30 => oB (AW.rd h m28 (m29 + m30 * 1)) fun v31 => vSl v31 fun p32 m33 m34 => aP p32 fun m35 m36 => oB (natIdx n8 m33) fun
  m37 => oB (AW.rd h m35 (m36 + m37 * 1)) fun v38 => vStr v38 fun s39 => bC (!bEq s27 s39) (Q (Value.bool false) h) (unitAt P f_brickyardref13_Alike 9 [0, 1, 5, 6] [Value.slice p1 m2 m3, Value.slice
  p4 m5 m6, Value.int IntKind.i64 n7, Value.int IntKind.i64 (IntKind.wrap IntKind.i64 (n8 + 1))] h Q)) (unitAt P f_brickyardref13_Alike 4 [0, 1, 5] [Value.slice p1 m2 m3, Value.slice p4 m5 m6,
  Value.int IntKind.i64 (IntKind.wrap IntKind.i64 (n7 + 1))] h Q)) : unitAt P f_brickyardref13_Alike 9 [0, 1, 5, 6] [Value.slice p1 m2 m3, Value.slice p4 m5 m6, Value.int IntKind.i64 n7, Value.int
  IntKind.i64 n8] h Q := unit_ok (n := 400) (ann := annOf [(4, [0, 1, 5]), (9, [0, 1, 5, 6])]) (Eq.mp (by kernel_rfl) H)
theorem r_brickyardref13_Check {p1 : Option Addr} {m2 : Nat} {m3 : Nat} {h : AW} {Q : Value → AW → Prop} (H : unitAt P f_brickyardref13_Check 3 [0, 2, 3, 4, 5] [Value.slice p1 m2 m3, Value.pointer (some (Addr.mk
  (AW.next h) 0 none)), Value.int IntKind.i64 0, Value.int IntKind.i64 0, Value.int IntKind.i64 0] (AW.addVar h [Value.int IntKind.i64 0, Value.int IntKind.i64 0]) Q) : EvQ P f_brickyardref13_Check
  [Value.slice p1 m2 m3] h Q := fn_ok (n := 400) (ann := annOf [(3, [0, 2, 3, 4, 5])]) (Eq.mp (by kernel_rfl) H)
theorem r_brickyardref13_Check_3 {p1 : Option Addr} {m2 : Nat} {m3 : Nat} {m4 : Nat} {n5 : Int} {n6 : Int} {n7 : Int} {h : AW} {Q : Value → AW → Prop} (H : bC (decide (n7 < (↑m2 : Int))) (aP p1
  fun m8 m9 => oB (natIdx n7 m2) fun m10 => oB (AW.rd h m8 (m9 + m10 * 1)) fun v11 => vSl v11 fun p12 m13 m14 => bC ((↑m13 : Int) == 1) (aP p1 fun m15 m16 => oB (natIdx n7 m2) fun
  m17 => oB (AW.rd h m15 (m16 + m17 * 1)) fun v18 => vSl v18 fun p19 m20 m21 => aP p19 fun m22 m23 => oB (natIdx 0 m20) fun m24 => oB (AW.rd h m22 (m23 + m24 * 1)) fun v25 => vStr
  v25 fun s26 => bC (bEq s26 (ByteArray.mk #[101, 110, 100])) (bC (n5 == 0) (oB (AW.wrL h m4 0 [Value.int IntKind.i64 131, Value.int IntKind.i64 n7]) fun h27 => oB (AW.rd h27 m4 0)
  fun v28 => vInt IntKind.i64 v28 fun n29 => oB (AW.rd h27 m4 1) fun v30 => vInt IntKind.i64 v30 fun n31 => Q (Value.agg (Array.mk [Value.int IntKind.i64 n29, Value.int IntKind.i64
  n31])) h27) (unitAt P f_brickyardref13_Check 3 [0, 2, 3, 4, 5] [Value.slice p1 m2 m3, Value.pointer (some (Addr.mk m4 0 none)), Value.int IntKind.i64 (IntKind.wrap IntKind.i64 (n5 - 1)), Value.int
  IntKind.i64 n6, Value.int IntKind.i64 (IntKind.wrap IntKind.i64 (n7 + 1))] h Q)) (aP p1 fun m32 m33 => oB (natIdx n7 m2) fun m34 => oB (AW.rd h m32 (m33 + m34 * 1)) fun v35 =>
  vSl v35 fun p36 m37 m38 => EvQ P f_brickyardref13_Stmt [Value.slice p36 m37 m38] h fun v39 h40 => vTup v39 fun l41 => lC l41 fun v42 l43 => vAgg v42 fun l44 => lC l44 fun v45 l46 => vInt
  IntKind.i64 v45 fun n47 => lC l46 fun v48 l49 => vSl v48 fun p50 m51 m52 => lC l49 fun v53 l54 => vInt IntKind.i64 v53 fun n55 => lC l54 fun v56 l57 => vSl v56 fun p58 m59 m60 =>
  lN l57 (lC l43 fun v61 l62 => vBool v61 fun b63 => lN l62 (oB (AW.wrL (AW.addVar h40 [Value.int IntKind.i64 0, Value.slice none 0 0, Value.int IntKind.i64 0, Value.slice none 0
  0]) (AW.next h40) 0 [Value.int IntKind.i64 n47, Value.slice p50 m51 m52, Value.int IntKind.i64 n55, Value.slice p58 m59 m60]) fun h64 => bC (!b63) (oB (AW.wrL h64 m4 0 [Value.int
  IntKind.i64 130, Value.int IntKind.i64 n7]) fun h65 => oB (AW.rd h65 m4 0) fun v66 => vInt IntKind.i64 v66 fun n67 => oB (AW.rd h65 m4 1) fun v68 => vInt IntKind.i64 v68 fun n69
  => Q (Value.agg (Array.mk [Value.int IntKind.i64 n67, Value.int IntKind.i64 n69])) h65) (bC (decide (IntKind.wrap IntKind.i64 (n6 + 1) > 256)) (oB (AW.wrL h64 m4 0 [Value.int
  IntKind.i64 3, Value.int IntKind.i64 n7]) fun h70 => oB (AW.rd h70 m4 0) fun v71 => vInt IntKind.i64 v71 fun n72 => oB (AW.rd h70 m4 1) fun v73 => vInt IntKind.i64 v73 fun n74 =>
  Q (Value.agg (Array.mk [Value.int IntKind.i64 n72, Value.int IntKind.i64 n74])) h70) (oB (AW.rd h64 (AW.next h40) 0) fun v75 => vInt IntKind.i64 v75 fun n76 => EvQ P f_brickyardref13_Opens
  [Value.int IntKind.i64 n76] h64 fun v77 h78 => vBool v77 fun b79 => bC b79 (bC (n5 == 8) (oB (AW.wrL h78 m4 0 [Value.int IntKind.i64 132, Value.int IntKind.i64 n7]) fun h80 => oB
  (AW.rd h80 m4 0) fun v81 => vInt IntKind.i64 v81 fun n82 => oB (AW.rd h80 m4 1) fun v83 => vInt IntKind.i64 v83 fun n84 => Q (Value.agg (Array.mk [Value.int IntKind.i64 n82,
  Value.int IntKind.i64 n84])) h80) (unitAt P f_brickyardref13_Check 3 [0, 2, 3, 4, 5] [Value.slice p1 m2 m3, Value.pointer (some (Addr.mk m4 0 none)), Value.int IntKind.i64 (IntKind.wrap
  IntKind.i64 (n5 + 1)), Value.int IntKind.i64 (IntKind.wrap IntKind.i64 (n6 + 1)), Value.int IntKind.i64 (IntKind.wrap IntKind.i64 (n7 + 1))] h78 Q)) (unitAt P f_brickyardref13_Check 3 [0, 2, 3, 4,
  5] [Value.slice p1 m2 m3, Value.pointer (some (Addr.mk m4 0 none)), Value.int IntKind.i64 n5, Value.int IntKind.i64 (IntKind.wrap IntKind.i64 (n6 + 1)), Value.int IntKind.i64
  (IntKind.wrap IntKind.i64 (n7 + 1))] h78 Q))))))) (aP p1 fun m85 m86 => oB (natIdx n7 m2) fun m87 => oB (AW.rd h m85 (m86 + m87 * 1)) fun v88 => vSl v88 fun p89 m90 m91 => EvQ P
  f_brickyardref13_Stmt [Value.slice p89 m90 m91] h fun v92 h93 => vTup v92 fun l94 => lC l94 fun v95 l96 => vAgg v95 fun l97 => lC l97 fun v98 l99 => vInt IntKind.i64 v98 fun n100 => lC l99 fun
  v101 l102 => vSl v101 fun p103 m104 m105 => lC l102 fun v106 l107 => vInt IntKind.i64 v106 fun n108 => lC l107 fun v109 l110 => vSl v109 fun p111 m112 m113 => lN l110 (lC l96 fun
  v114 l115 => vBool v114 fun b116 => lN l115 (oB (AW.wrL (AW.addVar h93 [Value.int IntKind.i64 0, Value.slice none 0 0, Value.int IntKind.i64 0, Value.slice none 0 0]) (AW.next
  h93) 0 [Value.int IntKind.i64 n100, Value.slice p103 m104 m105, Value.int IntKind.i64 n108, Value.slice p111 m112 m113]) fun h117 => bC (!b116) (oB (AW.wrL h117 m4 0 [Value.int
  IntKind.i64 130, Value.int IntKind.i64 n7]) fun h118 => oB (AW.rd h118 m4 0) fun v119 => vInt IntKind.i64 v119 fun n120 => oB (AW.rd h118 m4 1) fun v121 => vInt IntKind.i64 v121
  fun n122 => Q (Value.agg (Array.mk [Value.int IntKind.i64 n120, Value.int IntKind.i64 n122])) h118) (bC (decide (IntKind.wrap IntKind.i64 (n6 + 1) > 256)) (oB (AW.wrL h117 m4 0
  [Value.int IntKind.i64 3, Value.int IntKind.i64 n7]) fun h123 => oB (AW.rd h123 m4 0) fun v124 => vInt IntKind.i64 v124 fun n125 => oB (AW.rd h123 m4 1) fun v126 => vInt
  IntKind.i64 v126 fun n127 => Q (Value.agg (Array.mk [Value.int IntKind.i64 n125, Value.int IntKind.i64 n127])) h123) (oB (AW.rd h117 (AW.next h93) 0) fun v128 => vInt IntKind.i64
  v128 fun n129 => EvQ P f_brickyardref13_Opens [Value.int IntKind.i64 n129] h117 fun v130 h131 => vBool v130 fun b132 => bC b132 (bC (n5 == 8) (oB (AW.wrL h131 m4 0 [Value.int IntKind.i64 132,
  Value.int IntKind.i64 n7]) fun h133 => oB (AW.rd h133 m4 0) fun v134 => vInt IntKind.i64 v134 fun n135 => oB (AW.rd h133 m4 1) fun v136 => vInt IntKind.i64 v136 fun n137 => Q
  (Value.agg (Array.mk [Value.int IntKind.i64 n135, Value.int IntKind.i64 n137])) h133) (unitAt P f_brickyardref13_Check 3 [0, 2, 3, 4, 5] [Value.slice p1 m2 m3, Value.pointer (some (Addr.mk m4 0
  none)), Value.int IntKind.i64 (IntKind.wrap IntKind.i64 (n5 + 1)), Value.int IntKind.i64 (IntKind.wrap IntKind.i64 (n6 + 1)), Value.int IntKind.i64 (IntKind.wrap IntKind.i64 (n7
  + 1))] h131 Q)) (unitAt P f_brickyardref13_Check 3 [0, 2, 3, 4, 5] [Value.slice p1 m2 m3, Value.pointer (some (Addr.mk m4 0 none)), Value.int IntKind.i64 n5, Value.int IntKind.i64 (IntKind.wrap
  IntKind.i64 (n6 + 1)), Value.int IntKind.i64 (IntKind.wrap IntKind.i64 (n7 + 1))] h131 Q))))))) (bC (decide (n5 > 0)) (oB (AW.wrL h m4 0 [Value.int IntKind.i64 131, Value.int
  IntKind.i64 (↑m2 : Int)]) fun h138 => oB (AW.rd h138 m4 0) fun v139 => vInt IntKind.i64 v139 fun n140 => oB (AW.rd h138 m4 1) fun v141 => vInt IntKind.i64 v141 fun n142 => Q
  (Value.agg (Array.mk [Value.int IntKind.i64 n140, Value.int IntKind.i64 n142])) h138) (oB (AW.wrL h m4 0 [Value.int IntKind.i64 0, Value.int IntKind.i64 0]) fun h143 => oB (AW.rd
  h143 m4 0) fun v144 => vInt IntKind.i64 v144 fun n145 => oB (AW.rd h143 m4 1) fun v146 => vInt IntKind.i64 v146 fun n147 => Q (Value.agg (Array.mk [Value.int IntKind.i64 n145,
  Value.int IntKind.i64 n147])) h143))) : unitAt P f_brickyardref13_Check 3 [0, 2, 3, 4, 5] [Value.slice p1 m2 m3, Value.pointer (some (Addr.mk m4 0 none)), Value.int IntKind.i64 n5, Value.int
  IntKind.i64 n6, Value.int IntKind.i64 n7] h Q := unit_ok (n := 400) (ann := annOf [(3, [0, 2, 3, 4, 5])]) (Eq.mp (by kernel_rfl) H)
theorem r_brickyardref13_Until {p1 : Option Addr} {m2 : Nat} {m3 : Nat} {n4 : Int} {h : AW} {Q : Value → AW → Prop} (H : unitAt P f_brickyardref13_Until 2 [0, 1, 6] [Value.slice p1 m2 m3, Value.int IntKind.i64 n4,
  Value.slice none 0 0] h Q) : EvQ P f_brickyardref13_Until [Value.slice p1 m2 m3, Value.int IntKind.i64 n4] h Q := fn_ok (n := 400) (ann := annOf [(2, [0, 1, 6])]) (Eq.mp (by kernel_rfl) H)
theorem r_brickyardref13_Until_2 {p1 : Option Addr} {m2 : Nat} {m3 : Nat} {n4 : Int} {p5 : Option Addr} {m6 : Nat} {m7 : Nat} {h : AW} {Q : Value → AW → Prop} (H : bC (decide (n4 < (↑m2 : Int)))
  (aP p1 fun m8 m9 => oB (natIdx n4 m2) fun m10 => oB (AW.rd h m8 (m9 + m10 * 1)) fun v11 => vSl v11 fun p12 m13 m14 => bC ((↑m13 : Int) == 1) (aP p1 fun m15 m16 => oB (natIdx n4
  m2) fun m17 => oB (AW.rd h m15 (m16 + m17 * 1)) fun v18 => vSl v18 fun p19 m20 m21 => aP p19 fun m22 m23 => oB (natIdx 0 m20) fun m24 => oB (AW.rd h m22 (m23 + m24 * 1)) fun v25
  => vStr v25 fun s26 => bC (!bEq s26 (ByteArray.mk #[101, 110, 100])) (aP p1 fun m27 m28 => oB (natIdx n4 m2) fun m29 => oB (AW.rd h m27 (m28 + m29 * 1)) fun v30 => vSl v30 fun
  p31 m32 m33 => EvQ P f_brickyardref13_Stmt [Value.slice p31 m32 m33] h fun v34 h35 => vTup v34 fun l36 => lC l36 fun v37 l38 => vAgg v37 fun l39 => lC l39 fun v40 l41 => vInt IntKind.i64 v40 fun
  n42 => lC l41 fun v43 l44 => vSl v43 fun p45 m46 m47 => lC l44 fun v48 l49 => vInt IntKind.i64 v48 fun n50 => lC l49 fun v51 l52 => vSl v51 fun p53 m54 m55 => lN l52 (lC l38 fun
  v56 l57 => vBool v56 fun b58 => lN l57 (oB (AW.wrL (AW.addVar h35 [Value.int IntKind.i64 0, Value.slice none 0 0, Value.int IntKind.i64 0, Value.slice none 0 0]) (AW.next h35) 0
  [Value.int IntKind.i64 n42, Value.slice p45 m46 m47, Value.int IntKind.i64 n50, Value.slice p53 m54 m55]) fun h59 => oB (AW.rd h59 (AW.next h35) 0) fun v60 => vInt IntKind.i64
  v60 fun n61 => EvQ P f_brickyardref13_Opens [Value.int IntKind.i64 n61] h59 fun v62 h63 => vBool v62 fun b64 => bC b64 (EvQ P f_brickyardref13_Until [Value.slice p1 m2 m3, Value.int IntKind.i64 (IntKind.wrap
  IntKind.i64 (n4 + 1))] h63 fun v65 h66 => vTup v65 fun l67 => lC l67 fun v68 l69 => vSl v68 fun p70 m71 m72 => lC l69 fun v73 l74 => vInt IntKind.i64 v73 fun n75 => lN l74 (oB
  (AW.wr h66 (AW.next h35) 3 (Value.slice p70 m71 m72)) fun h76 => oB (AW.rd h76 (AW.next h35) 0) fun v77 => vInt IntKind.i64 v77 fun n78 => oB (AW.rd h76 (AW.next h35) 1) fun v79
  => vSl v79 fun p80 m81 m82 => oB (AW.rd h76 (AW.next h35) 2) fun v83 => vInt IntKind.i64 v83 fun n84 => oB (AW.rd h76 (AW.next h35) 3) fun v85 => vSl v85 fun p86 m87 m88 => oP
  (appendB P (AW.addVar h76 [Value.int IntKind.i64 n78, Value.slice p80 m81 m82, Value.int IntKind.i64 n84, Value.slice p86 m87 m88]) (Array.mk [ty_sl_api_Stmt, ty_sl_api_Stmt]) [Value.slice p5 m6
  m7, Value.slice (some (Addr.mk (AW.next h76) 0 none)) 1 1]) fun v89 h90 => vSl v89 fun p91 m92 m93 => unitAt P f_brickyardref13_Until 2 [0, 1, 6] [Value.slice p1 m2 m3, Value.int IntKind.i64 n75,
  Value.slice p91 m92 m93] h90 Q)) (oB (AW.rd h63 (AW.next h35) 0) fun v94 => vInt IntKind.i64 v94 fun n95 => oB (AW.rd h63 (AW.next h35) 1) fun v96 => vSl v96 fun p97 m98 m99 =>
  oB (AW.rd h63 (AW.next h35) 2) fun v100 => vInt IntKind.i64 v100 fun n101 => oB (AW.rd h63 (AW.next h35) 3) fun v102 => vSl v102 fun p103 m104 m105 => oP (appendB P (AW.addVar
  h63 [Value.int IntKind.i64 n95, Value.slice p97 m98 m99, Value.int IntKind.i64 n101, Value.slice p103 m104 m105]) (Array.mk [ty_sl_api_Stmt, ty_sl_api_Stmt]) [Value.slice p5 m6 m7, Value.slice
  (some (Addr.mk (AW.next h63) 0 none)) 1 1]) fun v106 h107 => vSl v106 fun p108 m109 m110 => unitAt P f_brickyardref13_Until 2 [0, 1, 6] [Value.slice p1 m2 m3, Value.int IntKind.i64 (IntKind.wrap
  IntKind.i64 (n4 + 1)), Value.slice p108 m109 m110] h107 Q)))) (Q (Value.tuple (Array.mk [Value.slice p5 m6 m7, Value.int IntKind.i64 (IntKind.wrap IntKind.i64 (n4 + 1))])) h))
  (aP p1 fun m111 m112 => oB (natIdx n4 m2) fun m113 => oB (AW.rd h m111 (m112 + m113 * 1)) fun v114 => vSl v114 fun p115 m116 m117 => EvQ P f_brickyardref13_Stmt [Value.slice p115 m116 m117] h fun
  v118 h119 => vTup v118 fun l120 => lC l120 fun v121 l122 => vAgg v121 fun l123 => lC l123 fun v124 l125 => vInt IntKind.i64 v124 fun n126 => lC l125 fun v127 l128 => vSl v127 fun
  p129 m130 m131 => lC l128 fun v132 l133 => vInt IntKind.i64 v132 fun n134 => lC l133 fun v135 l136 => vSl v135 fun p137 m138 m139 => lN l136 (lC l122 fun v140 l141 => vBool v140
  fun b142 => lN l141 (oB (AW.wrL (AW.addVar h119 [Value.int IntKind.i64 0, Value.slice none 0 0, Value.int IntKind.i64 0, Value.slice none 0 0]) (AW.next h119) 0 [Value.int
  IntKind.i64 n126, Value.slice p129 m130 m131, Value.int IntKind.i64 n134, Value.slice p137 m138 m139]) fun h143 => oB (AW.rd h143 (AW.next h119) 0) fun v144 => vInt IntKind.i64
  v144 fun n145 => EvQ P f_brickyardref13_Opens [Value.int IntKind.i64 n145] h143 fun v146 h147 => vBool v146 fun b148 => bC b148 (EvQ P f_brickyardref13_Until [Value.slice p1 m2 m3, Value.int IntKind.i64
  (IntKind.wrap IntKind.i64 (n4 + 1))] h147 fun v149 h150 => vTup v149 fun l151 => lC l151 fun v152 l153 => vSl v152 fun p154 m155 m156 => lC l153 fun v157 l158 => vInt IntKind.i64
  v157 fun n159 => lN l158 (oB (AW.wr h150 (AW.next h119) 3 (Value.slice p154 m155 m156)) fun h160 => oB (AW.rd h160 (AW.next h119) 0) fun v161 => vInt IntKind.i64 v161 fun n162 =>
  oB (AW.rd h160 (AW.next h119) 1) fun v163 => vSl v163 fun p164 m165 m166 => oB (AW.rd h160 (AW.next h119) 2) fun v167 => vInt IntKind.i64 v167 fun n168 => oB (AW.rd h160 (AW.next
  h119) 3) fun v169 => vSl v169 fun p170 m171 m172 => oP (appendB P (AW.addVar h160 [Value.int IntKind.i64 n162, Value.slice p164 m165 m166, Value.int IntKind.i64 n168, Value.slice
  p170 m171 m172]) (Array.mk [ty_sl_api_Stmt, ty_sl_api_Stmt]) [Value.slice p5 m6 m7, Value.slice (some (Addr.mk (AW.next h160) 0 none)) 1 1]) fun v173 h174 => vSl v173 fun p175 m176 m177 => unitAt
  P f_brickyardref13_Until 2 [0, 1, 6] [Value.slice p1 m2 m3, Value.int IntKind.i64 n159, Value.slice p175 m176 m177] h174 Q)) (oB (AW.rd h147 (AW.next h119) 0) fun v178 => vInt IntKind.i64 v178 fun
  n179 => oB (AW.rd h147 (AW.next h119) 1) fun v180 => vSl v180 fun p181 m182 m183 => oB (AW.rd h147 (AW.next h119) 2) fun v184 => vInt IntKind.i64 v184 fun n185 => oB (AW.rd h147
  (AW.next h119) 3) fun v186 => vSl v186 fun p187 m188 m189 => oP (appendB P (AW.addVar h147 [Value.int IntKind.i64 n179, Value.slice p181 m182 m183, Value.int IntKind.i64 n185,
  Value.slice p187 m188 m189]) (Array.mk [ty_sl_api_Stmt, ty_sl_api_Stmt]) [Value.slice p5 m6 m7, Value.slice (some (Addr.mk (AW.next h147) 0 none)) 1 1]) fun v190 h191 => vSl v190 fun p192 m193
  m194 => unitAt P f_brickyardref13_Until 2 [0, 1, 6] [Value.slice p1 m2 m3, Value.int IntKind.i64 (IntKind.wrap IntKind.i64 (n4 + 1)), Value.slice p192 m193 m194] h191 Q))))) (Q (Value.tuple
  (Array.mk [Value.slice p5 m6 m7, Value.int IntKind.i64 (IntKind.wrap IntKind.i64 (n4 + 1))])) h)) : unitAt P f_brickyardref13_Until 2 [0, 1, 6] [Value.slice p1 m2 m3, Value.int IntKind.i64 n4,
  Value.slice p5 m6 m7] h Q := unit_ok (n := 400) (ann := annOf [(2, [0, 1, 6])]) (Eq.mp (by kernel_rfl) H)
theorem r_brickyardref13_all {p1 : Option Addr} {m2 : Nat} {m3 : Nat} {h : AW} {Q : Value → AW → Prop} (H : unitAt P f_brickyardref13_all 3 [0, 3, 4] [Value.slice p1 m2 m3, Value.slice none 0 0, Value.int
  IntKind.i64 0] h Q) : EvQ P f_brickyardref13_all [Value.slice p1 m2 m3] h Q := fn_ok (n := 400) (ann := annOf [(3, [0, 3, 4]), (10, [0, 3, 4, 5, 6])]) (Eq.mp (by kernel_rfl) H)
theorem r_brickyardref13_all_3 {p1 : Option Addr} {m2 : Nat} {m3 : Nat} {p4 : Option Addr} {m5 : Nat} {m6 : Nat} {n7 : Int} {h : AW} {Q : Value → AW → Prop} (H : bC (decide (n7 < (↑m2 : Int)))
  (aP p1 fun m8 m9 => oB (natIdx n7 m2) fun m10 => oB (AW.rd h m8 (m9 + m10 * 4)) fun v11 => vInt IntKind.i64 v11 fun n12 => oB (AW.rd h m8 (m9 + m10 * 4 + 1)) fun v13 => vSl v13
  fun p14 m15 m16 => oB (AW.rd h m8 (m9 + m10 * 4 + 1 + 1)) fun v17 => vInt IntKind.i64 v17 fun n18 => oB (AW.rd h m8 (m9 + m10 * 4 + 1 + 1 + 1)) fun v19 => vSl v19 fun p20 m21 m22
  => oB (AW.wrL (AW.addVar h [Value.int IntKind.i64 0, Value.slice none 0 0, Value.int IntKind.i64 0, Value.slice none 0 0]) (AW.next h) 0 [Value.int IntKind.i64 n12, Value.slice
  p14 m15 m16, Value.int IntKind.i64 n18, Value.slice p20 m21 m22]) fun h23 => oB (AW.rd h23 (AW.next h) 0) fun v24 => vInt IntKind.i64 v24 fun n25 => EvQ P f_brickyardref13_Word [Value.int
  IntKind.i64 n25] h23 fun v26 h27 => vStr v26 fun s28 => oB (AW.rd (AW.addVar h27 [Value.string s28]) (AW.next h) 1) fun v29 => vSl v29 fun p30 m31 m32 => oP (appendB P (AW.addVar
  h27 [Value.string s28]) (Array.mk [ty_sl_string, ty_sl_string]) [Value.slice (some (Addr.mk (AW.next h27) 0 none)) 1 1, Value.slice p30 m31 m32]) fun v33 h34 => vSl v33 fun p35 m36 m37 => oB
  (AW.rd h34 (AW.next h) 0) fun v38 => vInt IntKind.i64 v38 fun n39 => bC (n39 == 10) (oB (AW.rd h34 (AW.next h) 2) fun v40 => vInt IntKind.i64 v40 fun n41 => EvQ P f_brickyardref13_Digits [Value.int
  IntKind.i64 n41] h34 fun v42 h43 => vStr v42 fun s44 => oP (appendB P (AW.addVar h43 [Value.string s44]) (Array.mk [ty_sl_string, ty_sl_string]) [Value.slice p35 m36 m37, Value.slice (some
  (Addr.mk (AW.next h43) 0 none)) 1 1]) fun v45 h46 => vSl v45 fun p47 m48 m49 => unitAt P f_brickyardref13_all 10 [0, 3, 4, 5, 6] [Value.slice p1 m2 m3, Value.slice p4 m5 m6, Value.int
  IntKind.i64 n7, Value.pointer (some (Addr.mk (AW.next h) 0 none)), Value.slice p47 m48 m49] h46 Q) (unitAt P f_brickyardref13_all 10 [0, 3, 4, 5, 6] [Value.slice p1 m2 m3, Value.slice p4 m5 m6,
  Value.int IntKind.i64 n7, Value.pointer (some (Addr.mk (AW.next h) 0 none)), Value.slice p35 m36 m37] h34 Q)) (Q (Value.slice p4 m5 m6) h)) : unitAt P f_brickyardref13_all 3 [0, 3, 4]
  [Value.slice p1 m2 m3, Value.slice p4 m5 m6, Value.int IntKind.i64 n7] h Q := unit_ok (n := 400) (ann := annOf [(3, [0, 3, 4]), (10, [0, 3, 4, 5, 6])]) (Eq.mp (by kernel_rfl) H)
theorem r_brickyardref13_all_10 {p1 : Option Addr} {m2 : Nat} {m3 : Nat} {p4 : Option Addr} {m5 : Nat} {m6 : Nat} {n7 : Int} {m8 : Nat} {p9 : Option Addr} {m10 : Nat} {m11 : Nat} {h : AW} {Q :
  Value → AW → Prop} (H : oP (appendB P (AW.addVar h [Value.slice p9 m10 m11]) (Array.mk [ty_sl_sl_string, ty_sl_sl_string]) [Value.slice p4 m5 m6, Value.slice (some (Addr.mk (AW.next h) 0 none)) 1
  1]) fun v12 h13 => vSl v12 fun p14 m15 m16 => oB (AW.rd h13 m8 0) fun v17 => vInt IntKind.i64 v17 fun n18 => EvQ P f_brickyardref13_Opens [Value.int IntKind.i64 n18] h13 fun v19 h20 => vBool v19
  fun b21 => bC b21 (oB (AW.rd h20 m8 3) fun v22 => vSl v22 fun p23 m24 m25 => EvQ P f_brickyardref13_all [Value.slice p23 m24 m25] h20 fun v26 h27 => vSl v26 fun p28 m29 m30 => oP (appendB P h27
  (Array.mk [ty_sl_sl_string, ty_sl_sl_string]) [Value.slice p14 m15 m16, Value.slice p28 m29 m30]) fun v31 h32 => vSl v31 fun p33 m34 m35 => oP (appendB P (AW.addVar (AW.addVar h32 [Value.string
  (ByteArray.mk #[101, 110, 100])]) [Value.slice (some (Addr.mk (AW.next h32) 0 none)) 1 1]) (Array.mk [ty_sl_sl_string, ty_sl_sl_string]) [Value.slice p33 m34 m35, Value.slice (some (Addr.mk (AW.next
  (AW.addVar h32 [Value.string (ByteArray.mk #[101, 110, 100])])) 0 none)) 1 1]) fun v36 h37 => vSl v36 fun p38 m39 m40 => unitAt P f_brickyardref13_all 3 [0, 3, 4] [Value.slice p1 m2 m3,
  Value.slice p38 m39 m40, Value.int IntKind.i64 (IntKind.wrap IntKind.i64 (n7 + 1))] h37 Q) (unitAt P f_brickyardref13_all 3 [0, 3, 4] [Value.slice p1 m2 m3, Value.slice p14 m15 m16, Value.int
  IntKind.i64 (IntKind.wrap IntKind.i64 (n7 + 1))] h20 Q)) : unitAt P f_brickyardref13_all 10 [0, 3, 4, 5, 6] [Value.slice p1 m2 m3, Value.slice p4 m5 m6, Value.int IntKind.i64 n7, Value.pointer
  (some (Addr.mk m8 0 none)), Value.slice p9 m10 m11] h Q := unit_ok (n := 400) (ann := annOf [(3, [0, 3, 4]), (10, [0, 3, 4, 5, 6])]) (Eq.mp (by kernel_rfl) H)
theorem r_brickyardref13_one {p1 : Option Addr} {m2 : Nat} {m3 : Nat} {h : AW} {Q : Value → AW → Prop} (H : unitAt P f_brickyardref13_one 2 [0, 3] [Value.slice p1 m2 m3, Value.int IntKind.i64 0] h Q) : EvQ P
  f_brickyardref13_one [Value.slice p1 m2 m3] h Q := fn_ok (n := 400) (ann := annOf [(2, [0, 3])]) (Eq.mp (by kernel_rfl) H)
theorem r_brickyardref13_one_2 {p1 : Option Addr} {m2 : Nat} {m3 : Nat} {n4 : Int} {h : AW} {Q : Value → AW → Prop} (H : bC (decide (n4 < (↑m2 : Int))) (aP p1 fun m5 m6 => oB (natIdx n4 m2) fun
  m7 => oB (AW.rd h m5 (m6 + m7 * 4)) fun v8 => vInt IntKind.i64 v8 fun n9 => oB (AW.rd h m5 (m6 + m7 * 4 + 1)) fun v10 => vSl v10 fun p11 m12 m13 => oB (AW.rd h m5 (m6 + m7 * 4 +
  1 + 1)) fun v14 => vInt IntKind.i64 v14 fun n15 => oB (AW.rd h m5 (m6 + m7 * 4 + 1 + 1 + 1)) fun v16 => vSl v16 fun p17 m18 m19 => oB (AW.wrL (AW.addVar h [Value.int IntKind.i64
  0, Value.slice none 0 0, Value.int IntKind.i64 0, Value.slice none 0 0]) (AW.next h) 0 [Value.int IntKind.i64 n9, Value.slice p11 m12 m13, Value.int IntKind.i64 n15, Value.slice
  p17 m18 m19]) fun h20 => oB (AW.rd h20 (AW.next h) 0) fun v21 => vInt IntKind.i64 v21 fun n22 => EvQ P f_brickyardref13_Word [Value.int IntKind.i64 n22] h20 fun v23 h24 => vStr v23 fun s25 => bC
  (bEq s25 (ByteArray.mk #[])) (Q (Value.bool false) h24) (oB (AW.rd h24 (AW.next h) 0) fun v26 => vInt IntKind.i64 v26 fun n27 => EvQ P f_brickyardref13_Args [Value.int IntKind.i64 n27] h24 fun
  v28 h29 => vInt IntKind.i64 v28 fun n30 => bC (decide (n30 ≥ 0)) (oB (AW.rd h29 (AW.next h) 0) fun v31 => vInt IntKind.i64 v31 fun n32 => EvQ P f_brickyardref13_Args [Value.int IntKind.i64 n32]
  h29 fun v33 h34 => vInt IntKind.i64 v33 fun n35 => oB (AW.rd h34 (AW.next h) 1) fun v36 => vSl v36 fun p37 m38 m39 => bC (n35 != (↑m38 : Int)) (oB (AW.rd h29 (AW.next h) 1) fun
  v40 => vSl v40 fun p41 m42 m43 => Value.slice p41 m42 m43 = Value.slice p37 m38 m39 ∧ Value.int IntKind.i64 (↑m38 : Int) = Value.int IntKind.i64 (↑m38 : Int) ∧ Q (Value.bool
  false) h34) (oB (AW.rd h34 (AW.next h) 2) fun v44 => vInt IntKind.i64 v44 fun n45 => bC (decide (n45 < 0)) (oB (AW.rd h29 (AW.next h) 1) fun v46 => vSl v46 fun p47 m48 m49 =>
  Value.slice p47 m48 m49 = Value.slice p37 m38 m39 ∧ Value.int IntKind.i64 (↑m38 : Int) = Value.int IntKind.i64 (↑m38 : Int) ∧ Q (Value.bool false) h34) (oB (AW.rd h34 (AW.next h)
  2) fun v50 => vInt IntKind.i64 v50 fun n51 => bC (decide (n51 > 1000)) (oB (AW.rd h29 (AW.next h) 1) fun v52 => vSl v52 fun p53 m54 m55 => Value.slice p53 m54 m55 = Value.slice
  p37 m38 m39 ∧ Value.int IntKind.i64 (↑m38 : Int) = Value.int IntKind.i64 (↑m38 : Int) ∧ Q (Value.bool false) h34) (oB (AW.rd h34 (AW.next h) 0) fun v56 => vInt IntKind.i64 v56
  fun n57 => bC (n57 != 10) (oB (AW.rd h34 (AW.next h) 2) fun v58 => vInt IntKind.i64 v58 fun n59 => bC (n59 != 0) (oB (AW.rd h29 (AW.next h) 1) fun v60 => vSl v60 fun p61 m62 m63
  => Value.slice p61 m62 m63 = Value.slice p37 m38 m39 ∧ Value.int IntKind.i64 (↑m38 : Int) = Value.int IntKind.i64 (↑m38 : Int) ∧ Q (Value.bool false) h34) (oB (AW.rd h34 (AW.next
  h) 0) fun v64 => vInt IntKind.i64 v64 fun n65 => EvQ P f_brickyardref13_Opens [Value.int IntKind.i64 n65] h34 fun v66 h67 => vBool v66 fun b68 => bC (!b68) (oB (AW.rd h67 (AW.next h) 3) fun v69 =>
  vSl v69 fun p70 m71 m72 => bC (decide ((↑m71 : Int) > 0)) (oB (AW.rd h29 (AW.next h) 1) fun v73 => vSl v73 fun p74 m75 m76 => Value.slice p74 m75 m76 = Value.slice p37 m38 m39 ∧
  Value.int IntKind.i64 (↑m38 : Int) = Value.int IntKind.i64 (↑m38 : Int) ∧ Q (Value.bool false) h67) (oB (AW.rd h67 (AW.next h) 3) fun v77 => vSl v77 fun p78 m79 m80 => EvQ P f_brickyardref13_one
  [Value.slice p78 m79 m80] h67 fun v81 h82 => vBool v81 fun b83 => oB (AW.rd h29 (AW.next h) 1) fun v84 => vSl v84 fun p85 m86 m87 => Value.slice p85 m86 m87 = Value.slice p37 m38
  m39 ∧ Value.int IntKind.i64 (↑m38 : Int) = Value.int IntKind.i64 (↑m38 : Int) ∧ bC (!b83) (Q (Value.bool false) h82) (unitAt P f_brickyardref13_one 2 [0, 3] [Value.slice p1 m2 m3, Value.int
  IntKind.i64 (IntKind.wrap IntKind.i64 (n4 + 1))] h82 Q))) (oB (AW.rd h67 (AW.next h) 3) fun v88 => vSl v88 fun p89 m90 m91 => EvQ P f_brickyardref13_one [Value.slice p89 m90 m91] h67 fun v92 h93
  => vBool v92 fun b94 => oB (AW.rd h29 (AW.next h) 1) fun v95 => vSl v95 fun p96 m97 m98 => Value.slice p96 m97 m98 = Value.slice p37 m38 m39 ∧ Value.int IntKind.i64 (↑m38 : Int)
  = Value.int IntKind.i64 (↑m38 : Int) ∧ bC (!b94) (Q (Value.bool false) h93) (unitAt P f_brickyardref13_one 2 [0, 3] [Value.slice p1 m2 m3, Value.int IntKind.i64 (IntKind.wrap IntKind.i64 (n4 +
  1))] h93 Q)))) (oB (AW.rd h34 (AW.next h) 0) fun v99 => vInt IntKind.i64 v99 fun n100 => EvQ P f_brickyardref13_Opens [Value.int IntKind.i64 n100] h34 fun v101 h102 => vBool v101 fun b103 => bC
  (!b103) (oB (AW.rd h102 (AW.next h) 3) fun v104 => vSl v104 fun p105 m106 m107 => bC (decide ((↑m106 : Int) > 0)) (oB (AW.rd h29 (AW.next h) 1) fun v108 => vSl v108 fun p109 m110
  m111 => Value.slice p109 m110 m111 = Value.slice p37 m38 m39 ∧ Value.int IntKind.i64 (↑m38 : Int) = Value.int IntKind.i64 (↑m38 : Int) ∧ Q (Value.bool false) h102) (oB (AW.rd
  h102 (AW.next h) 3) fun v112 => vSl v112 fun p113 m114 m115 => EvQ P f_brickyardref13_one [Value.slice p113 m114 m115] h102 fun v116 h117 => vBool v116 fun b118 => oB (AW.rd h29 (AW.next h) 1)
  fun v119 => vSl v119 fun p120 m121 m122 => Value.slice p120 m121 m122 = Value.slice p37 m38 m39 ∧ Value.int IntKind.i64 (↑m38 : Int) = Value.int IntKind.i64 (↑m38 : Int) ∧ bC
  (!b118) (Q (Value.bool false) h117) (unitAt P f_brickyardref13_one 2 [0, 3] [Value.slice p1 m2 m3, Value.int IntKind.i64 (IntKind.wrap IntKind.i64 (n4 + 1))] h117 Q))) (oB (AW.rd h102 (AW.next
  h) 3) fun v123 => vSl v123 fun p124 m125 m126 => EvQ P f_brickyardref13_one [Value.slice p124 m125 m126] h102 fun v127 h128 => vBool v127 fun b129 => oB (AW.rd h29 (AW.next h) 1) fun v130 => vSl
  v130 fun p131 m132 m133 => Value.slice p131 m132 m133 = Value.slice p37 m38 m39 ∧ Value.int IntKind.i64 (↑m38 : Int) = Value.int IntKind.i64 (↑m38 : Int) ∧ bC (!b129) (Q
  (Value.bool false) h128) (unitAt P f_brickyardref13_one 2 [0, 3] [Value.slice p1 m2 m3, Value.int IntKind.i64 (IntKind.wrap IntKind.i64 (n4 + 1))] h128 Q))))))) (oB (AW.rd h29 (AW.next h) 2) fun
  v134 => vInt IntKind.i64 v134 fun n135 => bC (decide (n135 < 0)) (Q (Value.bool false) h29) (oB (AW.rd h29 (AW.next h) 2) fun v136 => vInt IntKind.i64 v136 fun n137 => bC (decide
  (n137 > 1000)) (Q (Value.bool false) h29) (oB (AW.rd h29 (AW.next h) 0) fun v138 => vInt IntKind.i64 v138 fun n139 => bC (n139 != 10) (oB (AW.rd h29 (AW.next h) 2) fun v140 =>
  vInt IntKind.i64 v140 fun n141 => bC (n141 != 0) (Q (Value.bool false) h29) (oB (AW.rd h29 (AW.next h) 0) fun v142 => vInt IntKind.i64 v142 fun n143 => EvQ P f_brickyardref13_Opens [Value.int
  IntKind.i64 n143] h29 fun v144 h145 => vBool v144 fun b146 => bC (!b146) (oB (AW.rd h145 (AW.next h) 3) fun v147 => vSl v147 fun p148 m149 m150 => bC (decide ((↑m149 : Int) > 0))
  (Q (Value.bool false) h145) (oB (AW.rd h145 (AW.next h) 3) fun v151 => vSl v151 fun p152 m153 m154 => EvQ P f_brickyardref13_one [Value.slice p152 m153 m154] h145 fun v155 h156 => vBool v155 fun
  b157 => bC (!b157) (Q (Value.bool false) h156) (unitAt P f_brickyardref13_one 2 [0, 3] [Value.slice p1 m2 m3, Value.int IntKind.i64 (IntKind.wrap IntKind.i64 (n4 + 1))] h156 Q))) (oB (AW.rd h145
  (AW.next h) 3) fun v158 => vSl v158 fun p159 m160 m161 => EvQ P f_brickyardref13_one [Value.slice p159 m160 m161] h145 fun v162 h163 => vBool v162 fun b164 => bC (!b164) (Q (Value.bool false)
  h163) (unitAt P f_brickyardref13_one 2 [0, 3] [Value.slice p1 m2 m3, Value.int IntKind.i64 (IntKind.wrap IntKind.i64 (n4 + 1))] h163 Q)))) (oB (AW.rd h29 (AW.next h) 0) fun v165 => vInt
  IntKind.i64 v165 fun n166 => EvQ P f_brickyardref13_Opens [Value.int IntKind.i64 n166] h29 fun v167 h168 => vBool v167 fun b169 => bC (!b169) (oB (AW.rd h168 (AW.next h) 3) fun v170 => vSl v170
  fun p171 m172 m173 => bC (decide ((↑m172 : Int) > 0)) (Q (Value.bool false) h168) (oB (AW.rd h168 (AW.next h) 3) fun v174 => vSl v174 fun p175 m176 m177 => EvQ P f_brickyardref13_one
  [Value.slice p175 m176 m177] h168 fun v178 h179 => vBool v178 fun b180 => bC (!b180) (Q (Value.bool false) h179) (unitAt P f_brickyardref13_one 2 [0, 3] [Value.slice p1 m2 m3, Value.int
  IntKind.i64 (IntKind.wrap IntKind.i64 (n4 + 1))] h179 Q))) (oB (AW.rd h168 (AW.next h) 3) fun v181 => vSl v181 fun p182 m183 m184 => EvQ P f_brickyardref13_one [Value.slice p182 m183 m184] h168
  fun v185 h186 => vBool v185 fun b187 => bC (!b187) (Q (Value.bool false) h186) (unitAt P f_brickyardref13_one 2 [0, 3] [Value.slice p1 m2 m3, Value.int IntKind.i64 (IntKind.wrap IntKind.i64 (n4
  + 1))] h186 Q)))))))) (Q (Value.bool true) h)) : unitAt P f_brickyardref13_one 2 [0, 3] [Value.slice p1 m2 m3, Value.int IntKind.i64 n4] h Q := unit_ok (n := 400) (ann := annOf [(2, [0, 3])])
  (Eq.mp (by kernel_rfl) H)
theorem r_brickyardref13_Opens {n1 : Int} {h : AW} {Q : Value → AW → Prop} (H : bC (n1 == 10) (Q (Value.bool true) h) (bC (n1 == 11) (Q (Value.bool true) h) (Q (Value.bool (n1 == 12)) h))) : EvQ P
  f_brickyardref13_Opens [Value.int IntKind.i64 n1] h Q := fn_ok (n := 400) (ann := annOf []) (Eq.mp (by kernel_rfl) H)
theorem r_brickyardref13_Stmt {p1 : Option Addr} {m2 : Nat} {m3 : Nat} {h : AW} {Q : Value → AW → Prop} (H : unitAt P f_brickyardref13_Stmt 2 [0, 2, 4] [Value.slice p1 m2 m3, Value.pointer (some (Addr.mk (AW.next
  h) 0 none)), Value.int IntKind.i64 1] (AW.addVar h [Value.int IntKind.i64 0, Value.slice none 0 0, Value.int IntKind.i64 0, Value.slice none 0 0]) Q) : EvQ P f_brickyardref13_Stmt [Value.slice p1
  m2 m3] h Q := fn_ok (n := 400) (ann := annOf [(2, [0, 2, 4])]) (Eq.mp (by kernel_rfl) H)
theorem r_brickyardref13_Stmt_2 {p1 : Option Addr} {m2 : Nat} {m3 : Nat} {m4 : Nat} {n5 : Int} {h : AW} {Q : Value → AW → Prop} (H : bC (decide (n5 ≤ 12)) (bC (decide ((↑m2 : Int) > 0)) (EvQ P
  f_brickyardref13_Word [Value.int IntKind.i64 n5] h fun v6 h7 => vStr v6 fun s8 => aP p1 fun m9 m10 => oB (natIdx 0 m2) fun m11 => oB (AW.rd h7 m9 (m10 + m11 * 1)) fun v12 => vStr v12 fun s13 =>
  oB (AW.rd h m9 (m10 + m11 * 1)) fun v14 => vStr v14 fun s15 => Value.string s15 = Value.string s13 ∧ bC (!bEq s8 s13) (unitAt P f_brickyardref13_Stmt 2 [0, 2, 4] [Value.slice p1 m2 m3,
  Value.pointer (some (Addr.mk m4 0 none)), Value.int IntKind.i64 (IntKind.wrap IntKind.i64 (n5 + 1))] h7 Q) (oB (AW.wrL (AW.addVar h7 [Value.int IntKind.i64 0, Value.slice none 0
  0, Value.int IntKind.i64 0, Value.slice none 0 0]) (AW.next h7) 0 [Value.int IntKind.i64 n5, Value.slice none 0 0, Value.int IntKind.i64 0, Value.slice none 0 0]) fun h16 => bC
  (n5 == 10) (bC ((↑m2 : Int) != 2) (oB (AW.rd h16 (AW.next h7) 0) fun v17 => vInt IntKind.i64 v17 fun n18 => oB (AW.rd h16 (AW.next h7) 1) fun v19 => vSl v19 fun p20 m21 m22 => oB
  (AW.rd h16 (AW.next h7) 2) fun v23 => vInt IntKind.i64 v23 fun n24 => oB (AW.rd h16 (AW.next h7) 3) fun v25 => vSl v25 fun p26 m27 m28 => oB (AW.wrL h16 m4 0 [Value.int
  IntKind.i64 n18, Value.slice p20 m21 m22, Value.int IntKind.i64 n24, Value.slice p26 m27 m28]) fun h29 => oB (AW.rd h29 m4 0) fun v30 => vInt IntKind.i64 v30 fun n31 => oB (AW.rd
  h29 m4 1) fun v32 => vSl v32 fun p33 m34 m35 => oB (AW.rd h29 m4 2) fun v36 => vInt IntKind.i64 v36 fun n37 => oB (AW.rd h29 m4 3) fun v38 => vSl v38 fun p39 m40 m41 => Q
  (Value.tuple (Array.mk [Value.agg (Array.mk [Value.int IntKind.i64 n31, Value.slice p33 m34 m35, Value.int IntKind.i64 n37, Value.slice p39 m40 m41]), Value.bool false])) h29)
  (aP p1 fun m42 m43 => oB (natIdx 1 m2) fun m44 => oB (AW.rd h16 m42 (m43 + m44 * 1)) fun v45 => vStr v45 fun s46 => EvQ P f_brickyardref13_Number [Value.string s46] h16 fun v47 h48 => vInt
  IntKind.i64 v47 fun n49 => oB (AW.wr h48 (AW.next h7) 2 (Value.int IntKind.i64 n49)) fun h50 => oB (AW.rd h50 (AW.next h7) 0) fun v51 => vInt IntKind.i64 v51 fun n52 => oB (AW.rd
  h50 (AW.next h7) 1) fun v53 => vSl v53 fun p54 m55 m56 => oB (AW.rd h50 (AW.next h7) 2) fun v57 => vInt IntKind.i64 v57 fun n58 => oB (AW.rd h50 (AW.next h7) 3) fun v59 => vSl
  v59 fun p60 m61 m62 => oB (AW.rd h50 (AW.next h7) 2) fun v63 => vInt IntKind.i64 v63 fun n64 => oB (AW.wrL h50 m4 0 [Value.int IntKind.i64 n52, Value.slice p54 m55 m56, Value.int
  IntKind.i64 n58, Value.slice p60 m61 m62]) fun h65 => oB (AW.rd h65 (AW.next h7) 2) fun v66 => vInt IntKind.i64 v66 fun n67 => Value.int IntKind.i64 n67 = Value.int IntKind.i64
  n64 ∧ oB (AW.rd h65 m4 0) fun v68 => vInt IntKind.i64 v68 fun n69 => oB (AW.rd h65 m4 1) fun v70 => vSl v70 fun p71 m72 m73 => oB (AW.rd h65 m4 2) fun v74 => vInt IntKind.i64 v74
  fun n75 => oB (AW.rd h65 m4 3) fun v76 => vSl v76 fun p77 m78 m79 => Q (Value.tuple (Array.mk [Value.agg (Array.mk [Value.int IntKind.i64 n69, Value.slice p71 m72 m73, Value.int
  IntKind.i64 n75, Value.slice p77 m78 m79]), Value.bool (decide (n64 ≥ 0))])) h65)) (oB (AW.rd h16 (AW.next h7) 1) fun v80 => vSl v80 fun p81 m82 m83 => oB (natBnd 1 m2) fun m84
  => bC (Nat.ble m2 m3) (oB (shO p1 (m84 * 1)) fun p85 => oP (appendB P h16 (Array.mk [ty_sl_string, ty_sl_string]) [Value.slice p81 m82 m83, Value.slice p85 (m2 - m84) (m3 - m84)]) fun v86 h87
  => vSl v86 fun p88 m89 m90 => oB (AW.wr h87 (AW.next h7) 1 (Value.slice p88 m89 m90)) fun h91 => oB (AW.rd h91 (AW.next h7) 0) fun v92 => vInt IntKind.i64 v92 fun n93 => oB
  (AW.rd h91 (AW.next h7) 1) fun v94 => vSl v94 fun p95 m96 m97 => oB (AW.rd h91 (AW.next h7) 2) fun v98 => vInt IntKind.i64 v98 fun n99 => oB (AW.rd h91 (AW.next h7) 3) fun v100
  => vSl v100 fun p101 m102 m103 => EvQ P f_brickyardref13_Args [Value.int IntKind.i64 n5] h91 fun v104 h105 => vInt IntKind.i64 v104 fun n106 => bC (decide (n106 < 0)) (oB (AW.wrL h105 m4 0
  [Value.int IntKind.i64 n93, Value.slice p95 m96 m97, Value.int IntKind.i64 n99, Value.slice p101 m102 m103]) fun h107 => oB (AW.rd h105 (AW.next h7) 0) fun v108 => vInt
  IntKind.i64 v108 fun n109 => oB (AW.rd h105 (AW.next h7) 1) fun v110 => vSl v110 fun p111 m112 m113 => oB (AW.rd h105 (AW.next h7) 2) fun v114 => vInt IntKind.i64 v114 fun n115
  => oB (AW.rd h105 (AW.next h7) 3) fun v116 => vSl v116 fun p117 m118 m119 => Value.agg (Array.mk [Value.int IntKind.i64 n109, Value.slice p111 m112 m113, Value.int IntKind.i64
  n115, Value.slice p117 m118 m119]) = Value.agg (Array.mk [Value.int IntKind.i64 n93, Value.slice p95 m96 m97, Value.int IntKind.i64 n99, Value.slice p101 m102 m103]) ∧ oB (AW.rd
  h107 m4 0) fun v120 => vInt IntKind.i64 v120 fun n121 => oB (AW.rd h107 m4 1) fun v122 => vSl v122 fun p123 m124 m125 => oB (AW.rd h107 m4 2) fun v126 => vInt IntKind.i64 v126
  fun n127 => oB (AW.rd h107 m4 3) fun v128 => vSl v128 fun p129 m130 m131 => Q (Value.tuple (Array.mk [Value.agg (Array.mk [Value.int IntKind.i64 n121, Value.slice p123 m124 m125,
  Value.int IntKind.i64 n127, Value.slice p129 m130 m131]), Value.bool true])) h107) (EvQ P f_brickyardref13_Args [Value.int IntKind.i64 n5] h105 fun v132 h133 => vInt IntKind.i64 v132 fun n134 =>
  oB (AW.rd h133 (AW.next h7) 1) fun v135 => vSl v135 fun p136 m137 m138 => oB (AW.wrL h133 m4 0 [Value.int IntKind.i64 n93, Value.slice p95 m96 m97, Value.int IntKind.i64 n99,
  Value.slice p101 m102 m103]) fun h139 => oB (AW.rd h105 (AW.next h7) 0) fun v140 => vInt IntKind.i64 v140 fun n141 => oB (AW.rd h105 (AW.next h7) 1) fun v142 => vSl v142 fun p143
  m144 m145 => oB (AW.rd h105 (AW.next h7) 2) fun v146 => vInt IntKind.i64 v146 fun n147 => oB (AW.rd h105 (AW.next h7) 3) fun v148 => vSl v148 fun p149 m150 m151 => Value.agg
  (Array.mk [Value.int IntKind.i64 n141, Value.slice p143 m144 m145, Value.int IntKind.i64 n147, Value.slice p149 m150 m151]) = Value.agg (Array.mk [Value.int IntKind.i64 n93,
  Value.slice p95 m96 m97, Value.int IntKind.i64 n99, Value.slice p101 m102 m103]) ∧ oB (AW.rd h133 (AW.next h7) 0) fun v152 => vInt IntKind.i64 v152 fun n153 => oB (AW.rd h133
  (AW.next h7) 1) fun v154 => vSl v154 fun p155 m156 m157 => oB (AW.rd h133 (AW.next h7) 2) fun v158 => vInt IntKind.i64 v158 fun n159 => oB (AW.rd h133 (AW.next h7) 3) fun v160 =>
  vSl v160 fun p161 m162 m163 => Value.agg (Array.mk [Value.int IntKind.i64 n153, Value.slice p155 m156 m157, Value.int IntKind.i64 n159, Value.slice p161 m162 m163]) = Value.agg
  (Array.mk [Value.int IntKind.i64 n93, Value.slice p95 m96 m97, Value.int IntKind.i64 n99, Value.slice p101 m102 m103]) ∧ oB (AW.rd h105 (AW.next h7) 1) fun v164 => vSl v164 fun
  p165 m166 m167 => Value.slice p165 m166 m167 = Value.slice p136 m137 m138 ∧ oB (AW.rd h139 (AW.next h7) 1) fun v168 => vSl v168 fun p169 m170 m171 => Value.slice p169 m170 m171 =
  Value.slice p136 m137 m138 ∧ Value.int IntKind.i64 (↑m137 : Int) = Value.int IntKind.i64 (↑m137 : Int) ∧ Value.int IntKind.i64 (↑m137 : Int) = Value.int IntKind.i64 (↑m137 : Int)
  ∧ oB (AW.rd h139 m4 0) fun v172 => vInt IntKind.i64 v172 fun n173 => oB (AW.rd h139 m4 1) fun v174 => vSl v174 fun p175 m176 m177 => oB (AW.rd h139 m4 2) fun v178 => vInt
  IntKind.i64 v178 fun n179 => oB (AW.rd h139 m4 3) fun v180 => vSl v180 fun p181 m182 m183 => Q (Value.tuple (Array.mk [Value.agg (Array.mk [Value.int IntKind.i64 n173,
  Value.slice p175 m176 m177, Value.int IntKind.i64 n179, Value.slice p181 m182 m183]), Value.bool (n134 == (↑m137 : Int))])) h139)) False))) (oB (AW.wrL h m4 0 [Value.int
  IntKind.i64 0, Value.slice none 0 0, Value.int IntKind.i64 0, Value.slice none 0 0]) fun h184 => oB (AW.rd h184 m4 0) fun v185 => vInt IntKind.i64 v185 fun n186 => oB (AW.rd h184
  m4 1) fun v187 => vSl v187 fun p188 m189 m190 => oB (AW.rd h184 m4 2) fun v191 => vInt IntKind.i64 v191 fun n192 => oB (AW.rd h184 m4 3) fun v193 => vSl v193 fun p194 m195 m196
  => Q (Value.tuple (Array.mk [Value.agg (Array.mk [Value.int IntKind.i64 n186, Value.slice p188 m189 m190, Value.int IntKind.i64 n192, Value.slice p194 m195 m196]), Value.bool
  false])) h184)) (oB (AW.wrL h m4 0 [Value.int IntKind.i64 0, Value.slice none 0 0, Value.int IntKind.i64 0, Value.slice none 0 0]) fun h197 => oB (AW.rd h197 m4 0) fun v198 =>
  vInt IntKind.i64 v198 fun n199 => oB (AW.rd h197 m4 1) fun v200 => vSl v200 fun p201 m202 m203 => oB (AW.rd h197 m4 2) fun v204 => vInt IntKind.i64 v204 fun n205 => oB (AW.rd
  h197 m4 3) fun v206 => vSl v206 fun p207 m208 m209 => Q (Value.tuple (Array.mk [Value.agg (Array.mk [Value.int IntKind.i64 n199, Value.slice p201 m202 m203, Value.int IntKind.i64
  n205, Value.slice p207 m208 m209]), Value.bool false])) h197)) : unitAt P f_brickyardref13_Stmt 2 [0, 2, 4] [Value.slice p1 m2 m3, Value.pointer (some (Addr.mk m4 0 none)), Value.int IntKind.i64
  n5] h Q := unit_ok (n := 400) (ann := annOf [(2, [0, 2, 4])]) (Eq.mp (by kernel_rfl) H)
theorem r_brickyardref13_Word {n1 : Int} {h : AW} {Q : Value → AW → Prop} (H : bC (n1 == 1) (Q (Value.string (ByteArray.mk #[110, 101, 101, 100])) h) (bC (n1 == 2) (Q (Value.string (ByteArray.mk
  #[99, 97, 116])) h) (bC (n1 == 3) (Q (Value.string (ByteArray.mk #[116, 101, 120, 116])) h) (bC (n1 == 4) (Q (Value.string (ByteArray.mk #[117, 112, 112, 101, 114])) h) (bC (n1
  == 5) (Q (Value.string (ByteArray.mk #[115, 111, 114, 116])) h) (bC (n1 == 6) (Q (Value.string (ByteArray.mk #[117, 110, 105, 113])) h) (bC (n1 == 7) (Q (Value.string
  (ByteArray.mk #[99, 111, 117, 110, 116])) h) (bC (n1 == 8) (Q (Value.string (ByteArray.mk #[119, 114, 105, 116, 101])) h) (bC (n1 == 9) (Q (Value.string (ByteArray.mk #[102, 97,
  105, 108])) h) (bC (n1 == 10) (Q (Value.string (ByteArray.mk #[114, 101, 112, 101, 97, 116])) h) (bC (n1 == 11) (Q (Value.string (ByteArray.mk #[101, 97, 99, 104])) h) (bC (n1 ==
  12) (Q (Value.string (ByteArray.mk #[119, 104, 101, 110])) h) (Q (Value.string (ByteArray.mk #[])) h))))))))))))) : EvQ P f_brickyardref13_Word [Value.int IntKind.i64 n1] h Q := fn_ok (n := 400)
  (ann := annOf []) (Eq.mp (by kernel_rfl) H)
theorem r_brickyardref13_Args {n1 : Int} {h : AW} {Q : Value → AW → Prop} (H : bC (n1 == 1) (Q (Value.int IntKind.i64 1) h) (bC (n1 == 2) (Q (Value.int IntKind.i64 1) h) (bC (n1 == 8) (Q
  (Value.int IntKind.i64 1) h) (bC (n1 == 11) (Q (Value.int IntKind.i64 1) h) (unitAt P f_brickyardref13_Args 7 [3] [Value.int IntKind.i64 n1] h Q))))) : EvQ P f_brickyardref13_Args [Value.int IntKind.i64 n1] h Q
  := fn_ok (n := 400) (ann := annOf [(7, [3]), (10, [3])]) (Eq.mp (by kernel_rfl) H)
theorem r_brickyardref13_Args_7 {n1 : Int} {h : AW} {Q : Value → AW → Prop} (H : bC (n1 == 3) (Q (Value.int IntKind.i64 (Int.negSucc 0)) h) (bC (n1 == 9) (Q (Value.int IntKind.i64 (Int.negSucc
  0)) h) (unitAt P f_brickyardref13_Args 10 [3] [Value.int IntKind.i64 n1] h Q))) : unitAt P f_brickyardref13_Args 7 [3] [Value.int IntKind.i64 n1] h Q := unit_ok (n := 400) (ann := annOf [(7, [3]), (10, [3])])
  (Eq.mp (by kernel_rfl) H)
theorem r_brickyardref13_Args_10 {n1 : Int} {h : AW} {Q : Value → AW → Prop} (H : bC (n1 == 12) (Q (Value.int IntKind.i64 2) h) (Q (Value.int IntKind.i64 0) h)) : unitAt P f_brickyardref13_Args 10 [3] [Value.int
  IntKind.i64 n1] h Q := unit_ok (n := 400) (ann := annOf [(7, [3]), (10, [3])]) (Eq.mp (by kernel_rfl) H)
theorem r_brickyardref13_Number {s1 : ByteArray} {h : AW} {Q : Value → AW → Prop} (H : bC (decide ((↑(ByteArray.size s1) : Int) < 1)) (Q (Value.int IntKind.i64 (Int.negSucc 0)) h) (bC (decide
  ((↑(ByteArray.size s1) : Int) > 4)) (Q (Value.int IntKind.i64 (Int.negSucc 0)) h) (unitAt P f_brickyardref13_Number 5 [0, 3, 4] [Value.string s1, Value.int IntKind.i64 0, Value.int IntKind.i64 0]
  h Q))) : EvQ P f_brickyardref13_Number [Value.string s1] h Q := fn_ok (n := 400) (ann := annOf [(5, [0, 3, 4])]) (Eq.mp (by kernel_rfl) H)
theorem r_brickyardref13_Number_5 {s1 : ByteArray} {n2 : Int} {n3 : Int} {h : AW} {Q : Value → AW → Prop} (H : bC (decide (n3 < (↑(ByteArray.size s1) : Int))) (oB (natIdx n3 (ByteArray.size s1))
  fun m4 => oB (bAt s1 m4) fun n5 => bC (decide (n5 < 48)) (Q (Value.int IntKind.i64 (Int.negSucc 0)) h) (oB (natIdx n3 (ByteArray.size s1)) fun m6 => oB (bAt s1 m6) fun n7 => bC
  (decide (n7 > 57)) (Q (Value.int IntKind.i64 (Int.negSucc 0)) h) (oB (natIdx n3 (ByteArray.size s1)) fun m8 => oB (bAt s1 m8) fun n9 => unitAt P f_brickyardref13_Number 5 [0, 3, 4] [Value.string
  s1, Value.int IntKind.i64 (IntKind.wrap IntKind.i64 (IntKind.wrap IntKind.i64 (10 * n2) + IntKind.wrap IntKind.i64 (IntKind.wrap IntKind.u8 (n9 - 48)))), Value.int IntKind.i64
  (IntKind.wrap IntKind.i64 (n3 + 1))] h Q))) (bC (decide (n2 > 1000)) (Q (Value.int IntKind.i64 (Int.negSucc 0)) h) (EvQ P f_brickyardref13_Digits [Value.int IntKind.i64 n2] h fun v10 h11 => vStr
  v10 fun s12 => bC (!bEq s12 s1) (Q (Value.int IntKind.i64 (Int.negSucc 0)) h11) (Q (Value.int IntKind.i64 n2) h11)))) : unitAt P f_brickyardref13_Number 5 [0, 3, 4] [Value.string s1, Value.int
  IntKind.i64 n2, Value.int IntKind.i64 n3] h Q := unit_ok (n := 400) (ann := annOf [(5, [0, 3, 4])]) (Eq.mp (by kernel_rfl) H)
end Go.Proofs.YtgdkekdedgkglaaDoor
end

section
/- Layer 13: kinds, numbers and words. -/
namespace Go.Proofs.YtgdkekdedgkglaaDoor
open Go.Abs Go.Abs.Fo
set_option maxRecDepth 100000
attribute [local irreducible] unitAt EvQ
variable {h : AW} {μ : Paint} {ρ : Store} {Q : Value → AW → Prop}

theorem opens_ok {n : Int} (hq : Q (.bool (opensM n)) h) : EvQ P f_action_opens [.int .i64 n] h Q := by
  refine r_action_opens ?_
  unfold opensM at hq
  refine bC_iff (fun e => ?_) (fun e => ?_)
  · have : decide (10 ≤ n) = true := e
    rw [this] at hq; exact hq
  · have : decide (10 ≤ n) = false := e
    rw [this] at hq; exact hq
theorem eqI {a b : Int} (e : (a == b) = true) : a = b := by simpa using e
theorem neI {a b : Int} (e : (a == b) = false) : a ≠ b := by simpa using e
theorem nb {b : Bool} (e : (!b) = true) : b = false := by cases b <;> simp_all
theorem nb' {b : Bool} (e : (!b) = false) : b = true := by cases b <;> simp_all
theorem rOpens_ok {n : Int} (hq : Q (.bool (opensM n)) h) : EvQ P f_brickyardref13_Opens [.int .i64 n] h Q := by
  refine r_brickyardref13_Opens ?_
  refine bC_iff (fun e => ?_) (fun e => ?_)
  · have e := eqI e; subst e; exact hq
  · refine bC_iff (fun e2 => ?_) (fun e2 => ?_)
    · have e := eqI e2; subst e; exact hq
    · have : (n == 12) = opensM n := by
        have h1 := neI e
        have h2 := neI e2
        unfold opensM
        rw [Bool.eq_iff_iff]
        simp
        omega
      rw [this]; exact hq
theorem rArgs_ok {n : Int} (hq : Q (.int .i64 (argsM n)) h) : EvQ P f_brickyardref13_Args [.int .i64 n] h Q := by
  refine r_brickyardref13_Args ?_
  refine bC_iff (fun e => ?_) (fun e1 => ?_)
  · have e := eqI e; subst e; exact hq
  refine bC_iff (fun e => ?_) (fun e2 => ?_)
  · have e := eqI e; subst e; exact hq
  refine bC_iff (fun e => ?_) (fun e3 => ?_)
  · have e := eqI e; subst e; exact hq
  refine bC_iff (fun e => ?_) (fun e4 => ?_)
  · have e := eqI e; subst e; exact hq
  refine r_brickyardref13_Args_7 ?_
  refine bC_iff (fun e => ?_) (fun e5 => ?_)
  · have e := eqI e; subst e; exact hq
  refine bC_iff (fun e => ?_) (fun e6 => ?_)
  · have e := eqI e; subst e; exact hq
  refine r_brickyardref13_Args_10 ?_
  refine bC_iff (fun e => ?_) (fun e7 => ?_)
  · have e := eqI e; subst e; exact hq
  · have h1 := neI e1
    have h2 := neI e2
    have h3 := neI e3
    have h4 := neI e4
    have h5 := neI e5
    have h6 := neI e6
    have h7 := neI e7
    rw [argsM, if_neg (by omega), if_neg (by omega), if_neg (by omega)] at hq
    exact hq
theorem fits_ok {n : Int} {k : Nat} (hq : Q (.bool (fitsM n k)) h) : EvQ P f_action_fits [.int .i64 n, .int .i64 (k : Int)] h Q := by
  have one : ∀ m : Nat, argsM n = (m : Int) → ((k : Int) == (m : Int)) = fitsM n k := by
    intro m e
    unfold fitsM
    rw [e]
    rw [Bool.eq_iff_iff]
    simp
    omega
  have o1 : ∀ e : argsM n = 1, Q (.bool ((k : Int) == 1)) h := fun e => by
    have := one 1 e
    rw [← this] at hq; exact hq
  refine r_action_fits ?_
  refine bC_iff (fun e => ?_) (fun e1 => ?_)
  · have e := eqI e; subst e; exact o1 rfl
  refine bC_iff (fun e => ?_) (fun e2 => ?_)
  · have e := eqI e; subst e; exact o1 rfl
  refine bC_iff (fun e => ?_) (fun e3 => ?_)
  · have e := eqI e; subst e; exact o1 rfl
  refine bC_iff (fun e => ?_) (fun e4 => ?_)
  · have e := eqI e; subst e; exact o1 rfl
  refine r_action_fits_7 ?_
  refine bC_iff (fun e => ?_) (fun e5 => ?_)
  · have e := eqI e; subst e; exact hq
  refine bC_iff (fun e => ?_) (fun e6 => ?_)
  · have e := eqI e; subst e; exact hq
  refine r_action_fits_10 ?_
  refine bC_iff (fun e => ?_) (fun e7 => ?_)
  · have e := eqI e; subst e
    have := one 2 rfl
    rw [← this] at hq; exact hq
  · have h1 := neI e1
    have h2 := neI e2
    have h3 := neI e3
    have h4 := neI e4
    have h5 := neI e5
    have h6 := neI e6
    have h7 := neI e7
    have := one 0 (by rw [argsM, if_neg (by omega), if_neg (by omega), if_neg (by omega)]; rfl)
    rw [← this] at hq; exact hq
theorem wordM_out {n : Int} (hn : n < 1 ∨ 12 < n) : wordM n = e0 := by
  cases n with
  | negSucc k => rfl
  | ofNat k =>
    unfold wordM
    simp only
    by_cases hk : k = 0
    · subst hk; rfl
    · have : 12 < k := by
        rcases hn with x | x
        · have x : (k : Int) < 1 := x
          omega
        · have x : 12 < (k : Int) := x
          omega
      rw [List.getElem?_eq_none (by simp; omega)]; rfl
theorem rWord_ok {n : Int} (hq : Q (.string (wordM n)) h) : EvQ P f_brickyardref13_Word [.int .i64 n] h Q := by
  refine r_brickyardref13_Word ?_
  refine bC_iff (fun e => ?_) (fun e1 => ?_)
  · have e := eqI e; subst e; exact hq
  refine bC_iff (fun e => ?_) (fun e2 => ?_)
  · have e := eqI e; subst e; exact hq
  refine bC_iff (fun e => ?_) (fun e3 => ?_)
  · have e := eqI e; subst e; exact hq
  refine bC_iff (fun e => ?_) (fun e4 => ?_)
  · have e := eqI e; subst e; exact hq
  refine bC_iff (fun e => ?_) (fun e5 => ?_)
  · have e := eqI e; subst e; exact hq
  refine bC_iff (fun e => ?_) (fun e6 => ?_)
  · have e := eqI e; subst e; exact hq
  refine bC_iff (fun e => ?_) (fun e7 => ?_)
  · have e := eqI e; subst e; exact hq
  refine bC_iff (fun e => ?_) (fun e8 => ?_)
  · have e := eqI e; subst e; exact hq
  refine bC_iff (fun e => ?_) (fun e9 => ?_)
  · have e := eqI e; subst e; exact hq
  refine bC_iff (fun e => ?_) (fun e10 => ?_)
  · have e := eqI e; subst e; exact hq
  refine bC_iff (fun e => ?_) (fun e11 => ?_)
  · have e := eqI e; subst e; exact hq
  refine bC_iff (fun e => ?_) (fun e12 => ?_)
  · have e := eqI e; subst e; exact hq
  have h1 := neI e1
  have h2 := neI e2
  have h3 := neI e3
  have h4 := neI e4
  have h5 := neI e5
  have h6 := neI e6
  have h7 := neI e7
  have h8 := neI e8
  have h9 := neI e9
  have h10 := neI e10
  have h11 := neI e11
  have h12 := neI e12
  rw [wordM_out (by omega)] at hq
  exact hq
theorem bytes_one {b : UInt8} : AW.bytes (h.addVar [.int .u8 b.toNat]) (some ⟨h.next, 0, none⟩) 1 = some ⟨#[b]⟩ := by
  have hr : (h.addVar [.int .u8 b.toNat]).rd h.next 0 = some (.int .u8 b.toNat) := by
    have := (addVar_at (h := h) (l := [.int .u8 b.toNat])).rd 0
    exact this
  have hn : (h.addVar [.int .u8 b.toNat]).rdN h.next 0 1 = some [.int .u8 b.toNat] := by
    simp only [AW.rdN]
    rw [hr]
  unfold AW.bytes
  simp only
  rw [hn]
  simp only [bytesV]
  rw [show UInt8.ofNat (Int.toNat ((b.toNat : Nat) : Int)) = b from by simp]
theorem wrap8 {n : Nat} (hn : n < 256) : IntKind.wrap .u8 (n : Int) = (n : Int) := by
  unfold IntKind.wrap
  simp [IntKind.signed, IntKind.bits]
  omega
theorem digits_more : ∀ (k n : Nat), n < 10 ^ (k + 1) → digits (k + 1) n = digits k n
  | 0, n, hn => by
    rw [digits, digits, if_neg (by omega)]
  | k + 1, n, hn => by
    rw [digits]
    conv => rhs; rw [digits]
    rw [digits_more k (n / 10) (by rw [Nat.pow_succ] at hn; omega)]
theorem digS_rec {n : Nat} (h0 : 10 ≤ n) (hn : n < 10000) : digS n = digS (n / 10) ++ ⟨#[digB n]⟩ := by
  unfold digS
  rw [digits, if_pos h0]
  have : digits 20 (n / 10) = digits 19 (n / 10) := digits_more 19 _ (by omega)
  rw [this]
  have hh : ∀ a b : List UInt8, (⟨⟨a ++ b⟩⟩ : ByteArray) = (⟨⟨a⟩⟩ : ByteArray) ++ (⟨⟨b⟩⟩ : ByteArray) := by
    intro a b
    apply ByteArray.ext
    simp
  exact hh _ _
theorem digS_small {n : Nat} (h0 : ¬ 10 ≤ n) : digS n = ⟨#[digB n]⟩ := by
  unfold digS
  rw [digits, if_neg h0]
theorem digits_len : ∀ (k n : Nat), (digits k n).length ≤ k + 1
  | 0, n => by simp [digits]
  | k + 1, n => by
    rw [digits]; split
    · have := digits_len k (n / 10); simp; omega
    · simp
theorem rDigits_ok (O : Own h μ ρ) {n : Nat} (hn : n < 10000) (hq : RdQ Q ρ (.string (digS n))) : EvQ P f_brickyardref13_Digits [.int .i64 (n : Int)] h Q := by
  induction n using Nat.strongRecOn generalizing h μ ρ Q with
  | ind n ih =>
    have hw : IntKind.wrap .u8 (IntKind.wrap .i64 (48 + Int.tmod (n : Int) 10)) = ((digB n).toNat : Int) := by
      have e : (48 + Int.tmod (n : Int) 10) = ((48 + n % 10 : Nat) : Int) := by
        have : Int.tmod (n : Int) ((10 : Nat) : Int) = ((n % 10 : Nat) : Int) := rfl
        rw [show (10 : Int) = ((10 : Nat) : Int) from rfl, this]; omega
      rw [e, wrap_small (n := ((48 + n % 10 : Nat) : Int)) (by omega) (by omega), wrap8 (by omega)]
      have : (digB n).toNat = 48 + n % 10 := by
        unfold digB
        rw [UInt8.toNat_ofNat']; omega
      rw [this]
    refine r_brickyardref13_Digits ?_
    rw [hw, bytes_one]
    simp only [oB_some, bC_true, bC_false, vInt_int, vBool_bool, vStr_string, vPtr_pointer, vSl_slice, vMap_map, vFun_func, vAgg_agg, vTup_tuple, vIfc_nil, vIfc_iface, lC_cons, lN_nil, aP_some, shO_none, shO_some, Option.isNone_none, Option.isNone_some, Bool.not_true, Bool.not_false]
    obtain ⟨μ1, O1⟩ := o_junk (l := [.int .u8 (digB n).toNat]) O
    refine bC_iff (fun e => ?_) (fun e => ?_)
    · have e : (n : Int) ≥ 10 := of_decide_eq_true e
      have h10 : 10 ≤ n := by omega
      have e2 : IntKind.wrap .i64 (Int.tdiv (n : Int) 10) = ((n / 10 : Nat) : Int) := by
        have : Int.tdiv (n : Int) ((10 : Nat) : Int) = ((n / 10 : Nat) : Int) := rfl
        rw [show (10 : Int) = ((10 : Nat) : Int) from rfl, this, wrap_small (n := ((n / 10 : Nat) : Int)) (by omega) (by omega)]
      rw [e2]
      refine ih (n / 10) (by omega) O1 (by omega) fun h2 μ2 ρ2 O2 F2 => ?_
      simp only [oB_some, bC_true, bC_false, vInt_int, vBool_bool, vStr_string, vPtr_pointer, vSl_slice, vMap_map, vFun_func, vAgg_agg, vTup_tuple, vIfc_nil, vIfc_iface, lC_cons, lN_nil, aP_some, shO_none, shO_some, Option.isNone_none, Option.isNone_some, Bool.not_true, Bool.not_false]
      have hl : ∀ k, (digS k).size ≤ 21 := fun k => by
        have := digits_len 20 k
        simpa [digS, ByteArray.size] using this
      have h1 : (digS (n / 10)).size ≤ 21 := hl _
      rw [Nat.ble_eq_true_of_le (by have : (ByteArray.mk #[digB n]).size = 1 := rfl; omega)]
      simp only [oB_some, bC_true, bC_false, vInt_int, vBool_bool, vStr_string, vPtr_pointer, vSl_slice, vMap_map, vFun_func, vAgg_agg, vTup_tuple, vIfc_nil, vIfc_iface, lC_cons, lN_nil, aP_some, shO_none, shO_some, Option.isNone_none, Option.isNone_some, Bool.not_true, Bool.not_false]
      rw [← digS_rec h10 hn]
      exact hq _ _ _ O2 F2
    · have e : ¬ (n : Int) ≥ 10 := of_decide_eq_false e
      rw [digS_small (by omega)] at hq
      exact hq.now O1
theorem rNumber_loop (O : Own h μ ρ) {s : Str} (hs : s.size ≤ 4) (h1 : 1 ≤ s.size) (hq : RdQ Q ρ (.int .i64 (numM s))) : ∀ (d k n : Nat), s.size - k = d → k ≤ s.size → n < 10 ^ k → numL s.data.toList 0 = numL (s.data.toList.drop k) n →
    unitAt P f_brickyardref13_Number 5 [0, 3, 4] [.string s, .int .i64 (n : Int), .int .i64 (k : Int)] h Q := by
  have hno : numL s.data.toList 0 = none → numM s = -1 := fun e => by
    unfold numM
    rw [if_neg (by omega), e]
  have hlen : s.data.toList.length = s.size := rfl
  intro d
  induction d with
  | zero =>
    intro k n hd hk hn he
    refine r_brickyardref13_Number_5 ?_
    rw [geI (by omega)]
    simp only [oB_some, bC_true, bC_false, vInt_int, vBool_bool, vStr_string, vPtr_pointer, vSl_slice, vMap_map, vFun_func, vAgg_agg, vTup_tuple, vIfc_nil, vIfc_iface, lC_cons, lN_nil, aP_some, shO_none, shO_some, Option.isNone_none, Option.isNone_some, Bool.not_true, Bool.not_false]
    rw [List.drop_eq_nil_of_le (by omega), numL] at he
    have hnb : n < 10000 := Nat.lt_of_lt_of_le hn (by have : 10 ^ k ≤ 10 ^ 4 := Nat.pow_le_pow_right (by omega) (by omega); exact this)
    unfold numM at hq
    rw [if_neg (by omega), he] at hq
    simp only at hq
    refine bC_iff (fun e => ?_) (fun e => ?_)
    · have e : (n : Int) > 1000 := of_decide_eq_true e
      rw [if_pos (.inl (by omega))] at hq
      exact hq.now O
    · have e : ¬ (n : Int) > 1000 := of_decide_eq_false e
      refine rDigits_ok O hnb fun h2 μ2 ρ2 O2 F2 => ?_
      simp only [oB_some, bC_true, bC_false, vInt_int, vBool_bool, vStr_string, vPtr_pointer, vSl_slice, vMap_map, vFun_func, vAgg_agg, vTup_tuple, vIfc_nil, vIfc_iface, lC_cons, lN_nil, aP_some, shO_none, shO_some, Option.isNone_none, Option.isNone_some, Bool.not_true, Bool.not_false]
      refine bC_iff (fun e2 => ?_) (fun e2 => ?_)
      · have e2 : digS n ≠ s := by simpa [bEq_false] using e2
        rw [if_pos (.inr e2)] at hq
        exact hq _ _ _ O2 F2
      · have e2 : digS n = s := by simpa [bEq_iff] using e2
        rw [if_neg (by
          rintro (x | x)
          · omega
          · exact x e2)] at hq
        exact hq _ _ _ O2 F2
  | succ d ih =>
    intro k n hd hk hn he
    have hlt : k < s.size := by omega
    have hlt' : k < s.data.toList.length := by omega
    have hnb : n < 10000 := Nat.lt_of_lt_of_le hn (by have : 10 ^ k ≤ 10 ^ 4 := Nat.pow_le_pow_right (by omega) (by omega); exact this)
    refine r_brickyardref13_Number_5 ?_
    rw [ltI hlt]
    simp only [oB_some, bC_true, bC_false, vInt_int, vBool_bool, vStr_string, vPtr_pointer, vSl_slice, vMap_map, vFun_func, vAgg_agg, vTup_tuple, vIfc_nil, vIfc_iface, lC_cons, lN_nil, aP_some, shO_none, shO_some, Option.isNone_none, Option.isNone_some, Bool.not_true, Bool.not_false]
    have hb : bAt s k = some ((s.data.toList[k]).toNat : Int) := by
      unfold bAt
      rw [Array.getElem?_eq_getElem (by exact hlt)]
      simp
    rw [natIdx_eq hlt]
    simp only [oB_some, bC_true, bC_false, vInt_int, vBool_bool, vStr_string, vPtr_pointer, vSl_slice, vMap_map, vFun_func, vAgg_agg, vTup_tuple, vIfc_nil, vIfc_iface, lC_cons, lN_nil, aP_some, shO_none, shO_some, Option.isNone_none, Option.isNone_some, Bool.not_true, Bool.not_false, hb]
    rw [List.drop_eq_getElem_cons hlt', numL] at he
    generalize s.data.toList[k] = b at he
    refine bC_iff (fun e => ?_) (fun e => ?_)
    · have e : ((b.toNat : Nat) : Int) < 48 := of_decide_eq_true e
      rw [if_pos (.inl (by omega))] at he
      rw [hno he] at hq
      exact hq.now O
    have e : ¬ ((b.toNat : Nat) : Int) < 48 := of_decide_eq_false e
    refine bC_iff (fun e2 => ?_) (fun e2 => ?_)
    · have e2 : ((b.toNat : Nat) : Int) > 57 := of_decide_eq_true e2
      rw [if_pos (.inr (by omega))] at he
      rw [hno he] at hq
      exact hq.now O
    have e2 : ¬ ((b.toNat : Nat) : Int) > 57 := of_decide_eq_false e2
    rw [if_neg (by omega)] at he
    have w1 : IntKind.wrap .u8 (((b.toNat : Nat) : Int) - 48) = ((b.toNat - 48 : Nat) : Int) := by
      rw [show ((b.toNat : Nat) : Int) - 48 = ((b.toNat - 48 : Nat) : Int) from by omega, wrap8 (by omega)]
    rw [w1, wrap_sm (n := 10 * (n : Int)) (by omega) (by omega), wrap_sm (n := ((b.toNat - 48 : Nat) : Int)) (by omega) (by omega), wrap_sm (by omega) (by omega), wrapS (by omega)]
    rw [show 10 * (n : Int) + ((b.toNat - 48 : Nat) : Int) = ((10 * n + (b.toNat - 48) : Nat) : Int) from by omega]
    exact ih (k + 1) _ (by omega) (by omega) (by rw [Nat.pow_succ]; omega) he
theorem rNumber_ok (O : Own h μ ρ) {s : Str} (hq : RdQ Q ρ (.int .i64 (numM s))) : EvQ P f_brickyardref13_Number [.string s] h Q := by
  refine r_brickyardref13_Number ?_
  refine bC_iff (fun e => ?_) (fun e => ?_)
  · have e : (s.size : Int) < 1 := of_decide_eq_true e
    unfold numM at hq
    rw [if_pos (.inl (by omega))] at hq
    exact hq.now O
  have e : ¬ (s.size : Int) < 1 := of_decide_eq_false e
  refine bC_iff (fun e2 => ?_) (fun e2 => ?_)
  · have e2 : (s.size : Int) > 4 := of_decide_eq_true e2
    unfold numM at hq
    rw [if_pos (.inr (by omega))] at hq
    exact hq.now O
  have e2 : ¬ (s.size : Int) > 4 := of_decide_eq_false e2
  exact rNumber_loop O (by omega) (by omega) hq _ 0 0 rfl (by omega) (by simp) rfl
end Go.Proofs.YtgdkekdedgkglaaDoor
end

section
/- Numbers out of words: where they may be had. -/
namespace Go.Proofs.YtgdkekdedgkglaaDoor
open Go.Abs Go.Abs.Fo
/-- Of these words a number is asked. -/
def Tbs (G : Str → Prop) (ρ : Store) : Prop :=
  ∀ {h : AW} {μ : Paint} {ρ' : Store} {s : Str} {Q : Value → AW → Prop}, Own h μ ρ' → Fra [] ρ ρ' → G s → RdQ Q ρ' (.int .i64 (numM s)) → EvQ P f_action_number [.string s] h Q
theorem Tbs.keep {G : Str → Prop} {ρ ρ' : Store} (T : Tbs G ρ) (F : Fra [] ρ ρ') : Tbs G ρ' := fun O F' => T O (F.trans F')
theorem number_ok {G : Str → Prop} {h : AW} {μ : Paint} {ρ : Store} {Q : Value → AW → Prop} (O : Own h μ ρ) (T : Tbs G ρ) {s : Str} (hs : G s) (hq : RdQ Q ρ (.int .i64 (numM s))) : EvQ P f_action_number [.string s] h Q := T O Fra.refl hs hq
theorem Tbs.none {ρ : Store} : Tbs (fun _ => False) ρ := fun _ _ g => g.elim
end Go.Proofs.YtgdkekdedgkglaaDoor
end

section
/- A line as a statement. -/
namespace Go.Proofs.YtgdkekdedgkglaaDoor
open Go.Abs Go.Abs.Fo
set_option maxRecDepth 100000
attribute [local irreducible] unitAt EvQ
variable {h : AW} {μ : Paint} {ρ : Store} {Q : Value → AW → Prop}

theorem opOf_word {w : Str} (h : opOf w ≠ 0) : wordM (opOf w) = w := by
  unfold opOf at h ⊢
  by_cases e0 : w = wNeed
  · rw [if_pos e0, e0]; rfl
  rw [if_neg e0] at h ⊢
  by_cases e1 : w = wCat
  · rw [if_pos e1, e1]; rfl
  rw [if_neg e1] at h ⊢
  by_cases e2 : w = wText
  · rw [if_pos e2, e2]; rfl
  rw [if_neg e2] at h ⊢
  by_cases e3 : w = wUpper
  · rw [if_pos e3, e3]; rfl
  rw [if_neg e3] at h ⊢
  by_cases e4 : w = wSort
  · rw [if_pos e4, e4]; rfl
  rw [if_neg e4] at h ⊢
  by_cases e5 : w = wUniq
  · rw [if_pos e5, e5]; rfl
  rw [if_neg e5] at h ⊢
  by_cases e6 : w = wCount
  · rw [if_pos e6, e6]; rfl
  rw [if_neg e6] at h ⊢
  by_cases e7 : w = wWrite
  · rw [if_pos e7, e7]; rfl
  rw [if_neg e7] at h ⊢
  by_cases e8 : w = wFail
  · rw [if_pos e8, e8]; rfl
  rw [if_neg e8] at h ⊢
  by_cases e9 : w = wRepeat
  · rw [if_pos e9, e9]; rfl
  rw [if_neg e9] at h ⊢
  by_cases e10 : w = wEach
  · rw [if_pos e10, e10]; rfl
  rw [if_neg e10] at h ⊢
  by_cases e11 : w = wWhen
  · rw [if_pos e11, e11]; rfl
  rw [if_neg e11] at h ⊢
  exact absurd rfl h
theorem word_opOf : ∀ k : Nat, 1 ≤ k → k ≤ 12 → opOf (wordM k) = k
  | 1, _, _ => by decide
  | 2, _, _ => by decide
  | 3, _, _ => by decide
  | 4, _, _ => by decide
  | 5, _, _ => by decide
  | 6, _, _ => by decide
  | 7, _, _ => by decide
  | 8, _, _ => by decide
  | 9, _, _ => by decide
  | 10, _, _ => by decide
  | 11, _, _ => by decide
  | 12, _, _ => by decide
  | 0, h, _ => by omega
  | k + 13, _, h => by omega
theorem opOf_le (w : Str) : opOf w ≤ 12 := by
  have it : ∀ {c : Prop} [Decidable c] {a b : Nat}, a ≤ 12 → b ≤ 12 → (if c then a else b) ≤ 12 := by
    intro c _ a b h1 h2
    split <;> assumption
  unfold opOf
  repeat' refine it (by decide) ?_
  decide
theorem word_iff {w : Str} {k : Nat} (h1 : 1 ≤ k) (h2 : k ≤ 12) : wordM k = w ↔ opOf w = k :=
  ⟨fun e => by rw [← e]; exact word_opOf k h1 h2, fun e => by rw [← e]; exact opOf_word (by omega)⟩
theorem word_ok (O : Own h μ ρ) {k : Nat} (hk : k ≤ 12) (hq : RdQ Q ρ (.string (wordM k))) : EvQ P f_action_word [.int .i64 (k : Int)] h Q := by
  refine r_action_word ?_
  refine w_copy O p00 rfl rfl rfl fun h1 μ1 ρ1 c1 O1 W1 hc1 => ?_
  have F1 : Fra [] ρ ρ1 := W1.fra0 fun c hc => by simp at hc; rw [hc]; exact hc1
  rw [show decide ((k : Int) < 0) = false from decide_eq_false (by omega)]
  simp only [oB_some, bC_true, bC_false, vInt_int, vBool_bool, vStr_string, vPtr_pointer, vSl_slice, vMap_map, vFun_func, vAgg_agg, vTup_tuple, vIfc_nil, vIfc_iface, lC_cons, lN_nil, aP_some, shO_none, shO_some, Option.isNone_none, Option.isNone_some, Bool.not_true, Bool.not_false]
  rw [show decide ((k : Int) ≥ 13) = false from decide_eq_false (by omega)]
  simp only [oB_some, bC_true, bC_false, vInt_int, vBool_bool, vStr_string, vPtr_pointer, vSl_slice, vMap_map, vFun_func, vAgg_agg, vTup_tuple, vIfc_nil, vIfc_iface, lC_cons, lN_nil, aP_some, shO_none, shO_some, Option.isNone_none, Option.isNone_some, Bool.not_true, Bool.not_false]
  rw [natIdx_eq (show k < 13 by omega)]
  simp only [oB_some, bC_true, bC_false, vInt_int, vBool_bool, vStr_string, vPtr_pointer, vSl_slice, vMap_map, vFun_func, vAgg_agg, vTup_tuple, vIfc_nil, vIfc_iface, lC_cons, lN_nil, aP_some, shO_none, shO_some, Option.isNone_none, Option.isNone_some, Bool.not_true, Bool.not_false]
  have hv : (kinds.map Value.string)[k]? = some (.string (wordM k)) := by
    have : wordM (k : Int) = (kinds[k]?).getD e0 := rfl
    rw [this, List.getElem?_map, List.getElem?_eq_getElem (by simp; omega)]; rfl
  rw [show 0 + k * 1 = k from by omega]
  refine w_rd O1 W1 0 rfl hv ?_
  simp only [oB_some, bC_true, bC_false, vInt_int, vBool_bool, vStr_string, vPtr_pointer, vSl_slice, vMap_map, vFun_func, vAgg_agg, vTup_tuple, vIfc_nil, vIfc_iface, lC_cons, lN_nil, aP_some, shO_none, shO_some, Option.isNone_none, Option.isNone_some, Bool.not_true, Bool.not_false]
  exact hq _ _ _ O1 F1
theorem clone_vw (O : Own h μ ρ) {a : Option Addr} {x : List Str} {cap : Nat} (X : Vw ρ [] a (strs x)) (hx : x.length ≤ 1000000000) (hq : NewS Q ρ x) :
    EvQ P f_slices_Clone_sl_string_string [.slice a x.length cap] h Q := by
  rcases X with ⟨rfl, e⟩ | X
  · have : x = [] := by simpa using e
    subst this
    refine r_slices_Clone_sl_string_string ?_
    simp only [oB_some, bC_true, bC_false, vInt_int, vBool_bool, vStr_string, vPtr_pointer, vSl_slice, vMap_map, vFun_func, vAgg_agg, vTup_tuple, vIfc_nil, vIfc_iface, lC_cons, lN_nil, aP_some, shO_none, shO_some, Option.isNone_none, Option.isNone_some, Bool.not_true, Bool.not_false]
    exact new_nil O hq
  · exact clone_ok O X hx hq
/-- A statement comes back, its words in a slice of its own. -/
def NewX (Q : Value → AW → Prop) (ρ : Store) (x : X) : Prop :=
  ∀ h' μ' ρ' co oa oc, Own h' μ' ρ' → Pcs ρ ρ' [co] [.sl oa oc 1 (strs x.args)] → ρ co = none →
    Q (.tuple ⟨[.agg ⟨[.int .i64 x.op, .slice oa x.args.length oc, .int .i64 x.n, .slice none 0 0]⟩, .bool x.ok]⟩) h'
theorem NewX.none {x : X} (hq : NewX Q ρ x) (e : x.args = []) {ρ' : Store} {μ' : Paint} {h' : AW} (O' : Own h' μ' ρ') (F : Fra [] ρ ρ') :
    Q (.tuple ⟨[.agg ⟨[.int .i64 x.op, .slice Option.none 0 0, .int .i64 x.n, .slice Option.none 0 0]⟩, .bool x.ok]⟩) h' := by
  obtain ⟨ρ1, c1, O1, W1, hc1⟩ := w_nil O' (Pcs.mk (ρ0 := ρ) (ns := []) (rs := []) List.nodup_nil rfl (by intro i c r h; simp at h) F) 1
  have := hq h' μ' ρ1 c1 Option.none 0 O1 (by rw [e]; exact W1) hc1
  rw [e] at this
  exact this
theorem stmtM_ne {w : Str} {args : List Str} (e : opOf w ≠ 10) : stmtM (w :: args) = ⟨opOf w, args, 0, decide (0 < opOf w) && fitsM (opOf w) args.length⟩ := by
  show (if opOf w = 10 then _ else _) = _
  rw [if_neg e]
theorem stmtM_one {w s : Str} (e : opOf w = 10) : stmtM [w, s] = ⟨10, [], numM s, decide (numM s ≥ 0)⟩ := by
  show (if opOf w = 10 then _ else _) = _
  rw [if_pos e]
theorem stmtM_bad {w : Str} {args : List Str} (e : opOf w = 10) (h : args.length ≠ 1) : stmtM (w :: args) = ⟨0, [], 0, false⟩ := by
  show (if opOf w = 10 then _ else _) = _
  rw [if_pos e]
  match args, h with
  | [], _ => rfl
  | [s], h => exact absurd rfl h
  | _ :: _ :: _, _ => rfl
theorem stmt_loop {G : Str → Prop} (T : Tbs G ρ) {w : Str} {args : List Str} {a : Option Addr} {cap : Nat} (V : Vw ρ [] a (strs (w :: args))) (hc : (w :: args).length ≤ cap) (hl : args.length ≤ 1000000) (hs : ∀ s, args = [s] → opOf w = 10 → G s) (hq : NewX Q ρ (stmtM (w :: args))) :
    ∀ (d k : Nat) {h : AW} {μ : Paint} {ρ' : Store} {p5 p4 c5 c4 : Nat}, 13 - k = d → 1 ≤ k → k ≤ 13 → Own h μ ρ' → Pcs ρ ρ' [c5, c4] [.var p5 [.int .i64 ((if opOf w < k then opOf w else 0 : Nat) : Int), .slice none 0 0, .int .i64 0, .slice none 0 0], .var p4 [.int .i64 0, .slice none 0 0, .int .i64 0, .slice none 0 0]] → ρ c5 = none → ρ c4 = none →
      unitAt P f_action_stmt 5 [0, 2, 4, 5] [.slice a (w :: args).length cap, .pointer (some ⟨p4, 0, none⟩), .pointer (some ⟨p5, 0, none⟩), .int .i64 (k : Int)] h Q := by
  intro d
  induction d with
  | zero =>
    intro k h μ ρ' p5 p4 c5 c4 hd h1 hk O W hc5 hc4
    have : k = 13 := by omega
    subst this
    have F : Fra [] ρ ρ' := W.fra0 fun c hc => by
      simp at hc; rcases hc with rfl | rfl <;> assumption
    have hop := opOf_le w
    rw [if_pos (by omega)] at W
    refine r_action_stmt_5 ?_
    rw [show decide (((13 : Nat) : Int) ≤ 12) = false from rfl]
    simp only [oB_some, bC_true, bC_false, vInt_int, vBool_bool, vStr_string, vPtr_pointer, vSl_slice, vMap_map, vFun_func, vAgg_agg, vTup_tuple, vIfc_nil, vIfc_iface, lC_cons, lN_nil, aP_some, shO_none, shO_some, Option.isNone_none, Option.isNone_some, Bool.not_true, Bool.not_false]
    rw [show natBnd 1 (w :: args).length = some 1 from natBnd_eq (j := 1) (by simp)]
    simp only [oB_some, bC_true, bC_false, vInt_int, vBool_bool, vStr_string, vPtr_pointer, vSl_slice, vMap_map, vFun_func, vAgg_agg, vTup_tuple, vIfc_nil, vIfc_iface, lC_cons, lN_nil, aP_some, shO_none, shO_some, Option.isNone_none, Option.isNone_some, Bool.not_true, Bool.not_false]
    rw [Nat.ble_eq_true_of_le hc]
    simp only [oB_some, bC_true, bC_false, vInt_int, vBool_bool, vStr_string, vPtr_pointer, vSl_slice, vMap_map, vFun_func, vAgg_agg, vTup_tuple, vIfc_nil, vIfc_iface, lC_cons, lN_nil, aP_some, shO_none, shO_some, Option.isNone_none, Option.isNone_some, Bool.not_true, Bool.not_false]
    obtain ⟨a', ea, V'⟩ := (V.keep F).drop (1 * 1)
    rw [ea]
    have V' : Vw ρ' [] a' (strs args) := V'
    have hlen : (w :: args).length - 1 = args.length := by simp
    rw [hlen]
    repeat (first | refine ⟨rfl, ?_⟩ | refine ⟨trivial, ?_⟩ | simp only [oB_some, bC_true, bC_false, vInt_int, vBool_bool, vStr_string, vPtr_pointer, vSl_slice, vMap_map, vFun_func, vAgg_agg, vTup_tuple, vIfc_nil, vIfc_iface, lC_cons, lN_nil, aP_some, shO_none, shO_some, Option.isNone_none, Option.isNone_some, Bool.not_true, Bool.not_false] | refine w_rd (by assumption) (by assumption) 0 (by rfl) (by rfl) ?_ | refine w_rd (by assumption) (by assumption) 1 (by rfl) (by rfl) ?_ | refine w_wrL (by assumption) (by assumption) 0 (by rfl) (Nat.le_of_ble_eq_true (by rfl)) (by rfl) fun h ρz O W => ?_ | refine w_wrL (by assumption) (by assumption) 1 (by rfl) (Nat.le_of_ble_eq_true (by rfl)) (by rfl) fun h ρz O W => ?_ | refine w_wr (by assumption) (by assumption) 0 (by rfl) (Nat.le_of_ble_eq_true (by rfl)) (by rfl) fun h ρz O W => ?_ | refine w_wr (by assumption) (by assumption) 1 (by rfl) (Nat.le_of_ble_eq_true (by rfl)) (by rfl) fun h ρz O W => ?_)
    refine bC_iff (fun e => ?_) (fun e => ?_)
    · have e : opOf w = 10 := by have := eqI e; omega
      refine bC_iff (fun e2 => ?_) (fun e2 => ?_)
      · rw [stmtM_bad e (by simp at e2; omega)] at hq
        repeat (first | refine ⟨rfl, ?_⟩ | refine ⟨trivial, ?_⟩ | simp only [oB_some, bC_true, bC_false, vInt_int, vBool_bool, vStr_string, vPtr_pointer, vSl_slice, vMap_map, vFun_func, vAgg_agg, vTup_tuple, vIfc_nil, vIfc_iface, lC_cons, lN_nil, aP_some, shO_none, shO_some, Option.isNone_none, Option.isNone_some, Bool.not_true, Bool.not_false] | refine w_rd (by assumption) (by assumption) 0 (by rfl) (by rfl) ?_ | refine w_rd (by assumption) (by assumption) 1 (by rfl) (by rfl) ?_ | refine w_wrL (by assumption) (by assumption) 0 (by rfl) (Nat.le_of_ble_eq_true (by rfl)) (by rfl) fun h ρz O W => ?_ | refine w_wrL (by assumption) (by assumption) 1 (by rfl) (Nat.le_of_ble_eq_true (by rfl)) (by rfl) fun h ρz O W => ?_ | refine w_wr (by assumption) (by assumption) 0 (by rfl) (Nat.le_of_ble_eq_true (by rfl)) (by rfl) fun h ρz O W => ?_ | refine w_wr (by assumption) (by assumption) 1 (by rfl) (Nat.le_of_ble_eq_true (by rfl)) (by rfl) fun h ρz O W => ?_)
        exact hq.none rfl (by assumption) (Pcs.fra0 (by assumption) fun c hc => by
          simp at hc; rcases hc with rfl | rfl <;> assumption)
      · obtain ⟨s, rfl⟩ : ∃ s, args = [s] := by
          match args, e2 with
          | [], e2 => simp at e2
          | [s], _ => exact ⟨s, rfl⟩
          | _ :: _ :: _, e2 => simp at e2; omega
        rw [stmtM_one e] at hq
        refine wd_at (j := 0) O V' rfl rfl (by simp) ?_
        refine number_ok O (T.keep F) (hs _ rfl e) fun h2 μ2 ρ2 O2 F2 => ?_
        have W := W.keep0 F2
        rw [e] at W
        repeat (first | refine ⟨rfl, ?_⟩ | refine ⟨trivial, ?_⟩ | simp only [oB_some, bC_true, bC_false, vInt_int, vBool_bool, vStr_string, vPtr_pointer, vSl_slice, vMap_map, vFun_func, vAgg_agg, vTup_tuple, vIfc_nil, vIfc_iface, lC_cons, lN_nil, aP_some, shO_none, shO_some, Option.isNone_none, Option.isNone_some, Bool.not_true, Bool.not_false] | refine w_rd (by assumption) (by assumption) 0 (by rfl) (by rfl) ?_ | refine w_rd (by assumption) (by assumption) 1 (by rfl) (by rfl) ?_ | refine w_wrL (by assumption) (by assumption) 0 (by rfl) (Nat.le_of_ble_eq_true (by rfl)) (by rfl) fun h ρz O W => ?_ | refine w_wrL (by assumption) (by assumption) 1 (by rfl) (Nat.le_of_ble_eq_true (by rfl)) (by rfl) fun h ρz O W => ?_ | refine w_wr (by assumption) (by assumption) 0 (by rfl) (Nat.le_of_ble_eq_true (by rfl)) (by rfl) fun h ρz O W => ?_ | refine w_wr (by assumption) (by assumption) 1 (by rfl) (Nat.le_of_ble_eq_true (by rfl)) (by rfl) fun h ρz O W => ?_)
        exact hq.none rfl (by assumption) (Pcs.fra0 (by assumption) fun c hc => by
          simp at hc; rcases hc with rfl | rfl <;> assumption)
    · have e : opOf w ≠ 10 := by have := neI e; omega
      rw [stmtM_ne e] at hq
      refine clone_vw O V' (by omega) fun h2 μ2 ρ2 co oa oc O2 W2 hco => ?_
      have W := W.adopt W2 hco
      have hco0 := F.none0 hco
      repeat (first | refine ⟨rfl, ?_⟩ | refine ⟨trivial, ?_⟩ | simp only [oB_some, bC_true, bC_false, vInt_int, vBool_bool, vStr_string, vPtr_pointer, vSl_slice, vMap_map, vFun_func, vAgg_agg, vTup_tuple, vIfc_nil, vIfc_iface, lC_cons, lN_nil, aP_some, shO_none, shO_some, Option.isNone_none, Option.isNone_some, Bool.not_true, Bool.not_false] | refine w_rd (by assumption) (by assumption) 0 (by rfl) (by rfl) ?_ | refine w_rd (by assumption) (by assumption) 1 (by rfl) (by rfl) ?_ | refine w_rd (by assumption) (by assumption) 2 (by rfl) (by rfl) ?_ | refine w_wrL (by assumption) (by assumption) 0 (by rfl) (Nat.le_of_ble_eq_true (by rfl)) (by rfl) fun h ρz O W => ?_ | refine w_wrL (by assumption) (by assumption) 1 (by rfl) (Nat.le_of_ble_eq_true (by rfl)) (by rfl) fun h ρz O W => ?_ | refine w_wrL (by assumption) (by assumption) 2 (by rfl) (Nat.le_of_ble_eq_true (by rfl)) (by rfl) fun h ρz O W => ?_ | refine w_wr (by assumption) (by assumption) 0 (by rfl) (Nat.le_of_ble_eq_true (by rfl)) (by rfl) fun h ρz O W => ?_ | refine w_wr (by assumption) (by assumption) 1 (by rfl) (Nat.le_of_ble_eq_true (by rfl)) (by rfl) fun h ρz O W => ?_ | refine w_wr (by assumption) (by assumption) 2 (by rfl) (Nat.le_of_ble_eq_true (by rfl)) (by rfl) fun h ρz O W => ?_)
      refine bC_iff (fun e2 => ?_) (fun e2 => ?_)
      · have e2 := of_decide_eq_true e2
        rw [show decide (0 < opOf w) = true from decide_eq_true (by omega), Bool.true_and] at hq
        repeat (first | refine ⟨rfl, ?_⟩ | refine ⟨trivial, ?_⟩ | simp only [oB_some, bC_true, bC_false, vInt_int, vBool_bool, vStr_string, vPtr_pointer, vSl_slice, vMap_map, vFun_func, vAgg_agg, vTup_tuple, vIfc_nil, vIfc_iface, lC_cons, lN_nil, aP_some, shO_none, shO_some, Option.isNone_none, Option.isNone_some, Bool.not_true, Bool.not_false] | refine w_rd (by assumption) (by assumption) 0 (by rfl) (by rfl) ?_ | refine w_rd (by assumption) (by assumption) 1 (by rfl) (by rfl) ?_ | refine w_rd (by assumption) (by assumption) 2 (by rfl) (by rfl) ?_ | refine w_wrL (by assumption) (by assumption) 0 (by rfl) (Nat.le_of_ble_eq_true (by rfl)) (by rfl) fun h ρz O W => ?_ | refine w_wrL (by assumption) (by assumption) 1 (by rfl) (Nat.le_of_ble_eq_true (by rfl)) (by rfl) fun h ρz O W => ?_ | refine w_wrL (by assumption) (by assumption) 2 (by rfl) (Nat.le_of_ble_eq_true (by rfl)) (by rfl) fun h ρz O W => ?_ | refine w_wr (by assumption) (by assumption) 0 (by rfl) (Nat.le_of_ble_eq_true (by rfl)) (by rfl) fun h ρz O W => ?_ | refine w_wr (by assumption) (by assumption) 1 (by rfl) (Nat.le_of_ble_eq_true (by rfl)) (by rfl) fun h ρz O W => ?_ | refine w_wr (by assumption) (by assumption) 2 (by rfl) (Nat.le_of_ble_eq_true (by rfl)) (by rfl) fun h ρz O W => ?_)
        refine fits_ok ?_
        repeat (first | refine ⟨rfl, ?_⟩ | refine ⟨trivial, ?_⟩ | simp only [oB_some, bC_true, bC_false, vInt_int, vBool_bool, vStr_string, vPtr_pointer, vSl_slice, vMap_map, vFun_func, vAgg_agg, vTup_tuple, vIfc_nil, vIfc_iface, lC_cons, lN_nil, aP_some, shO_none, shO_some, Option.isNone_none, Option.isNone_some, Bool.not_true, Bool.not_false] | refine w_rd (by assumption) (by assumption) 0 (by rfl) (by rfl) ?_ | refine w_rd (by assumption) (by assumption) 1 (by rfl) (by rfl) ?_ | refine w_rd (by assumption) (by assumption) 2 (by rfl) (by rfl) ?_ | refine w_wrL (by assumption) (by assumption) 0 (by rfl) (Nat.le_of_ble_eq_true (by rfl)) (by rfl) fun h ρz O W => ?_ | refine w_wrL (by assumption) (by assumption) 1 (by rfl) (Nat.le_of_ble_eq_true (by rfl)) (by rfl) fun h ρz O W => ?_ | refine w_wrL (by assumption) (by assumption) 2 (by rfl) (Nat.le_of_ble_eq_true (by rfl)) (by rfl) fun h ρz O W => ?_ | refine w_wr (by assumption) (by assumption) 0 (by rfl) (Nat.le_of_ble_eq_true (by rfl)) (by rfl) fun h ρz O W => ?_ | refine w_wr (by assumption) (by assumption) 1 (by rfl) (Nat.le_of_ble_eq_true (by rfl)) (by rfl) fun h ρz O W => ?_ | refine w_wr (by assumption) (by assumption) 2 (by rfl) (Nat.le_of_ble_eq_true (by rfl)) (by rfl) fun h ρz O W => ?_)
        refine hq _ _ _ co oa oc (by assumption) (Pcs.tail2 (Pcs.tail2 (by assumption) hc5) hc4) hco0
      · have e2 := of_decide_eq_false e2
        rw [show decide (0 < opOf w) = false from decide_eq_false (by omega), Bool.false_and] at hq
        repeat (first | refine ⟨rfl, ?_⟩ | refine ⟨trivial, ?_⟩ | simp only [oB_some, bC_true, bC_false, vInt_int, vBool_bool, vStr_string, vPtr_pointer, vSl_slice, vMap_map, vFun_func, vAgg_agg, vTup_tuple, vIfc_nil, vIfc_iface, lC_cons, lN_nil, aP_some, shO_none, shO_some, Option.isNone_none, Option.isNone_some, Bool.not_true, Bool.not_false] | refine w_rd (by assumption) (by assumption) 0 (by rfl) (by rfl) ?_ | refine w_rd (by assumption) (by assumption) 1 (by rfl) (by rfl) ?_ | refine w_rd (by assumption) (by assumption) 2 (by rfl) (by rfl) ?_ | refine w_wrL (by assumption) (by assumption) 0 (by rfl) (Nat.le_of_ble_eq_true (by rfl)) (by rfl) fun h ρz O W => ?_ | refine w_wrL (by assumption) (by assumption) 1 (by rfl) (Nat.le_of_ble_eq_true (by rfl)) (by rfl) fun h ρz O W => ?_ | refine w_wrL (by assumption) (by assumption) 2 (by rfl) (Nat.le_of_ble_eq_true (by rfl)) (by rfl) fun h ρz O W => ?_ | refine w_wr (by assumption) (by assumption) 0 (by rfl) (Nat.le_of_ble_eq_true (by rfl)) (by rfl) fun h ρz O W => ?_ | refine w_wr (by assumption) (by assumption) 1 (by rfl) (Nat.le_of_ble_eq_true (by rfl)) (by rfl) fun h ρz O W => ?_ | refine w_wr (by assumption) (by assumption) 2 (by rfl) (Nat.le_of_ble_eq_true (by rfl)) (by rfl) fun h ρz O W => ?_)
        have := hq _ _ _ co oa oc (by assumption) (Pcs.tail2 (Pcs.tail2 (by assumption) hc5) hc4) hco0
        exact this
  | succ d ih =>
    intro k h μ ρ' p5 p4 c5 c4 hd h1 hk O W hc5 hc4
    have F : Fra [] ρ ρ' := W.fra0 fun c hc => by
      simp at hc; rcases hc with rfl | rfl <;> assumption
    refine r_action_stmt_5 ?_
    rw [show decide ((k : Int) ≤ 12) = true from decide_eq_true (by omega)]
    simp only [oB_some, bC_true, bC_false, vInt_int, vBool_bool, vStr_string, vPtr_pointer, vSl_slice, vMap_map, vFun_func, vAgg_agg, vTup_tuple, vIfc_nil, vIfc_iface, lC_cons, lN_nil, aP_some, shO_none, shO_some, Option.isNone_none, Option.isNone_some, Bool.not_true, Bool.not_false]
    refine word_ok O (by omega) fun h2 μ2 ρ2 O2 F2 => ?_
    simp only [oB_some, bC_true, bC_false, vInt_int, vBool_bool, vStr_string, vPtr_pointer, vSl_slice, vMap_map, vFun_func, vAgg_agg, vTup_tuple, vIfc_nil, vIfc_iface, lC_cons, lN_nil, aP_some, shO_none, shO_some, Option.isNone_none, Option.isNone_some, Bool.not_true, Bool.not_false]
    have W2 := W.keep0 F2
    refine ((V.keep (F.trans F2)).sl O2).ix (sz := 1) (j := 0) rfl (by simp) (by omega) (by simp) fun i off ea _ => ?_
    subst ea
    have g2 : h2.rd i (off + 0) = some (.string w) := Sl.get (j := 0) ((V.keep (F.trans F2)).sl O2) rfl
    have g1 : h.rd i (off + 0) = some (.string w) := Sl.get (j := 0) ((V.keep F).sl O) rfl
    refine oB_bind g2 ?_
    simp only [oB_some, bC_true, bC_false, vInt_int, vBool_bool, vStr_string, vPtr_pointer, vSl_slice, vMap_map, vFun_func, vAgg_agg, vTup_tuple, vIfc_nil, vIfc_iface, lC_cons, lN_nil, aP_some, shO_none, shO_some, Option.isNone_none, Option.isNone_some, Bool.not_true, Bool.not_false]
    refine oB_bind g1 ?_
    simp only [oB_some, bC_true, bC_false, vInt_int, vBool_bool, vStr_string, vPtr_pointer, vSl_slice, vMap_map, vFun_func, vAgg_agg, vTup_tuple, vIfc_nil, vIfc_iface, lC_cons, lN_nil, aP_some, shO_none, shO_some, Option.isNone_none, Option.isNone_some, Bool.not_true, Bool.not_false]
    refine ⟨by trivial, ?_⟩
    rw [wrapS (by omega)]
    refine bC_iff (fun e => ?_) (fun e => ?_)
    · have e : opOf w = k := (word_iff h1 (by omega)).1 (bEq_iff.1 e)
      refine w_wr O2 W2 0 (j := 0) rfl (by simp) rfl fun h3 ρ3 O3 W3 => ?_
      refine ih (k + 1) (by omega) (by omega) (by omega) O3 (W3.eq ?_) hc5 hc4
      rw [show (if opOf w < k + 1 then opOf w else 0) = k from by rw [if_pos (by omega), e]]; rfl
    · have e : opOf w ≠ k := fun e2 => bEq_false.1 e ((word_iff h1 (by omega)).2 e2)
      refine ih (k + 1) (by omega) (by omega) (by omega) O2 (W2.eq ?_) hc5 hc4
      by_cases hlt : opOf w < k
      · rw [if_pos hlt, if_pos (by omega)]
      · rw [if_neg hlt, if_neg (by omega)]
theorem stmt_ok {G : Str → Prop} (O : Own h μ ρ) (T : Tbs G ρ) {x : List Str} {a : Option Addr} {cap : Nat} (V : Vw ρ [] a (strs x)) (hc : x.length ≤ cap) (hl : x.length ≤ 1000000) (hs : ∀ w s, x = [w, s] → opOf w = 10 → G s) (hq : NewX Q ρ (stmtM x)) :
    EvQ P f_action_stmt [.slice a x.length cap] h Q := by
  refine r_action_stmt ?_
  cases x with
  | nil =>
    rw [show (((([] : List Str).length : Nat) : Int) == 0) = true from rfl]
    simp only [oB_some, bC_true, bC_false, vInt_int, vBool_bool, vStr_string, vPtr_pointer, vSl_slice, vMap_map, vFun_func, vAgg_agg, vTup_tuple, vIfc_nil, vIfc_iface, lC_cons, lN_nil, aP_some, shO_none, shO_some, Option.isNone_none, Option.isNone_some, Bool.not_true, Bool.not_false]
    refine w_copy O p00 rfl rfl rfl fun h1 μ1 ρ1 c1 O1 W1 hc1 => ?_
    repeat (first | refine ⟨rfl, ?_⟩ | refine ⟨trivial, ?_⟩ | simp only [oB_some, bC_true, bC_false, vInt_int, vBool_bool, vStr_string, vPtr_pointer, vSl_slice, vMap_map, vFun_func, vAgg_agg, vTup_tuple, vIfc_nil, vIfc_iface, lC_cons, lN_nil, aP_some, shO_none, shO_some, Option.isNone_none, Option.isNone_some, Bool.not_true, Bool.not_false] | refine w_rd (by assumption) (by assumption) 0 (by rfl) (by rfl) ?_ | refine w_rd (by assumption) (by assumption) 1 (by rfl) (by rfl) ?_ | refine w_wrL (by assumption) (by assumption) 0 (by rfl) (Nat.le_of_ble_eq_true (by rfl)) (by rfl) fun h ρz O W => ?_ | refine w_wrL (by assumption) (by assumption) 1 (by rfl) (Nat.le_of_ble_eq_true (by rfl)) (by rfl) fun h ρz O W => ?_ | refine w_wr (by assumption) (by assumption) 0 (by rfl) (Nat.le_of_ble_eq_true (by rfl)) (by rfl) fun h ρz O W => ?_ | refine w_wr (by assumption) (by assumption) 1 (by rfl) (Nat.le_of_ble_eq_true (by rfl)) (by rfl) fun h ρz O W => ?_)
    exact hq.none rfl (by assumption) (Pcs.fra0 (by assumption) fun c hc => by
      simp at hc; rw [hc]; exact hc1)
  | cons w args =>
    rw [show ((((w :: args).length : Nat) : Int) == 0) = false from by simp; omega]
    simp only [oB_some, bC_true, bC_false, vInt_int, vBool_bool, vStr_string, vPtr_pointer, vSl_slice, vMap_map, vFun_func, vAgg_agg, vTup_tuple, vIfc_nil, vIfc_iface, lC_cons, lN_nil, aP_some, shO_none, shO_some, Option.isNone_none, Option.isNone_some, Bool.not_true, Bool.not_false]
    obtain ⟨μ1, ρ1, c1, O1, W1, hc1⟩ := w_new O p00 [.int .i64 0, .slice none 0 0, .int .i64 0, .slice none 0 0]
    refine w_copy O1 W1 rfl rfl rfl fun h2 μ2 ρ2 c2 O2 W2 hc2 => ?_
    refine stmt_loop T V hc (by simp at hl; omega) (fun s h => hs w s (by rw [h])) hq _ 1 rfl (by omega) (by omega) O2 (W2.eq ?_) hc2 hc1
    by_cases hlt : opOf w < 1
    · rw [if_pos hlt, show opOf w = 0 by omega]; rfl
    · rw [if_neg hlt]; rfl
end Go.Proofs.YtgdkekdedgkglaaDoor
end
