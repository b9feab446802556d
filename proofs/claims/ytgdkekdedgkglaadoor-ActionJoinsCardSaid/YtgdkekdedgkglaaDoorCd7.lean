/- A deterministic heap for the model, proved sound, and walks of the program over it: part 12. No condition. -/
import Derived.Test.YtgdkekdedgkglaaDoorAb1
import Derived.Test.YtgdkekdedgkglaaDoorAb2
import Derived.Test.YtgdkekdedgkglaaDoorAb3
import Derived.Test.YtgdkekdedgkglaaDoorAb5
import Derived.Test.YtgdkekdedgkglaaDoorCd2
import Derived.Test.YtgdkekdedgkglaaDoorCd4
import Derived.Test.YtgdkekdedgkglaaDoorCd5
import Derived.Test.YtgdkekdedgkglaaDoorCd6
import Derived.Test.YtgdkekdedgkglaaDoorCd1
import Derived.Test.YtgdkekdedgkglaaDoorAb4
import Derived.Test.YtgdkekdedgkglaaDoorCd3
set_option linter.unusedVariables false
set_option linter.unusedSimpArgs false
set_option linter.unusedSectionVars false
section
/- Rules of walks, printed by a program of ours: group ALaw. -/
namespace Go.Proofs.YtgdkekdedgkglaaDoor
open Go.Abs
set_option maxRecDepth 100000
theorem r_brickyardlaw13_ActionParses {p1 : Option Addr} {m2 : Nat} {m3 : Nat} {h : AW} {Q : Value → AW → Prop} (H : EvQ P f_brickyardlaw13_works [] h fun v4 h5 => vBool v4 fun b6 => bC (!b6) (Q (Value.bool false) h5) (EvQ
  P f_brickyardlaw13_wide [Value.slice p1 m2 m3] h5 fun v7 h8 => vBool v7 fun b9 => bC b9 (Q (Value.bool true) h8) (EvQ P f_action_Parse [Value.slice p1 m2 m3] h8 fun v10 h11 => vTup v10 fun l12 => lC l12
  fun v13 l14 => vSl v13 fun p15 m16 m17 => lC l14 fun v18 l19 => vAgg v18 fun l20 => lC l20 fun v21 l22 => vInt IntKind.i64 v21 fun n23 => lC l22 fun v24 l25 => vInt IntKind.i64
  v24 fun n26 => lN l25 (lN l19 (oB (AW.wrL (AW.addVar h11 [Value.int IntKind.i64 0, Value.int IntKind.i64 0]) (AW.next h11) 0 [Value.int IntKind.i64 n23, Value.int IntKind.i64
  n26]) fun h27 => EvQ P f_brickyardref13_Parse [Value.slice p1 m2 m3] h27 fun v28 h29 => vTup v28 fun l30 => lC l30 fun v31 l32 => vSl v31 fun p33 m34 m35 => lC l32 fun v36 l37 => vAgg v36 fun l38
  => lC l38 fun v39 l40 => vInt IntKind.i64 v39 fun n41 => lC l40 fun v42 l43 => vInt IntKind.i64 v42 fun n44 => lN l43 (lN l37 (oB (AW.wrL (AW.addVar h29 [Value.int IntKind.i64 0,
  Value.int IntKind.i64 0]) (AW.next h29) 0 [Value.int IntKind.i64 n41, Value.int IntKind.i64 n44]) fun h45 => EvQ P f_brickyardref13_Same [Value.slice p15 m16 m17, Value.slice p33 m34 m35] h45 fun
  v46 h47 => vBool v46 fun b48 => bC (!b48) (Q (Value.bool false) h47) (oB (AW.rd h47 (AW.next h11) 0) fun v49 => vInt IntKind.i64 v49 fun n50 => oB (AW.rd h47 (AW.next h11) 1) fun
  v51 => vInt IntKind.i64 v51 fun n52 => oB (AW.rd h47 (AW.next h29) 0) fun v53 => vInt IntKind.i64 v53 fun n54 => oB (AW.rd h47 (AW.next h29) 1) fun v55 => vInt IntKind.i64 v55
  fun n56 => bC (!(n50 == n54 && (n52 == n56 && true))) (Q (Value.bool false) h47) (unitAt P f_brickyardlaw13_ActionParses 10 [0, 3, 5, 6, 7] [Value.slice p1 m2 m3, Value.slice p15 m16 m17, Value.slice p33
  m34 m35, Value.pointer (some (Addr.mk (AW.next h29) 0 none)), Value.int IntKind.i64 0] h47 Q))))))))) : EvQ P f_brickyardlaw13_ActionParses [Value.slice p1 m2 m3] h Q := fn_ok (n := 400) (ann := annOf
  [(10, [0, 3, 5, 6, 7]), (13, [0, 3, 5, 6, 7, 8])]) (Eq.mp (by kernel_rfl) H)
theorem r_brickyardlaw13_ActionParses_10 {p1 : Option Addr} {m2 : Nat} {m3 : Nat} {p4 : Option Addr} {m5 : Nat} {m6 : Nat} {p7 : Option Addr} {m8 : Nat} {m9 : Nat} {m10 : Nat} {n11 : Int} {h : AW} {Q :
  Value → AW → Prop} (H : bC (decide (n11 < (↑m5 : Int))) (unitAt P f_brickyardlaw13_ActionParses 13 [0, 3, 5, 6, 7, 8] [Value.slice p1 m2 m3, Value.slice p4 m5 m6, Value.slice p7 m8 m9, Value.pointer (some
  (Addr.mk m10 0 none)), Value.int IntKind.i64 n11, Value.int IntKind.i64 0] h Q) (EvQ P f_action_Parse [Value.slice p1 m2 m3] h fun v12 h13 => vTup v12 fun l14 => lC l14 fun v15 l16 => vSl
  v15 fun p17 m18 m19 => lC l16 fun v20 l21 => vAgg v20 fun l22 => lC l22 fun v23 l24 => vInt IntKind.i64 v23 fun n25 => lC l24 fun v26 l27 => vInt IntKind.i64 v26 fun n28 => lN
  l27 (lN l21 (oB (AW.wrL (AW.addVar h13 [Value.int IntKind.i64 0, Value.int IntKind.i64 0]) (AW.next h13) 0 [Value.int IntKind.i64 n25, Value.int IntKind.i64 n28]) fun h29 => EvQ
  P f_brickyardref13_Same [Value.slice p17 m18 m19, Value.slice p7 m8 m9] h29 fun v30 h31 => vBool v30 fun b32 => bC b32 (oB (AW.rd h31 (AW.next h13) 0) fun v33 => vInt IntKind.i64 v33 fun n34 =>
  oB (AW.rd h31 (AW.next h13) 1) fun v35 => vInt IntKind.i64 v35 fun n36 => oB (AW.rd h31 m10 0) fun v37 => vInt IntKind.i64 v37 fun n38 => oB (AW.rd h31 m10 1) fun v39 => vInt
  IntKind.i64 v39 fun n40 => Q (Value.bool (n34 == n38 && (n36 == n40 && true))) h31) (Q (Value.bool false) h31))))) : unitAt P f_brickyardlaw13_ActionParses 10 [0, 3, 5, 6, 7] [Value.slice p1 m2 m3,
  Value.slice p4 m5 m6, Value.slice p7 m8 m9, Value.pointer (some (Addr.mk m10 0 none)), Value.int IntKind.i64 n11] h Q := unit_ok (n := 400) (ann := annOf [(10, [0, 3, 5, 6, 7]),
  (13, [0, 3, 5, 6, 7, 8])]) (Eq.mp (by kernel_rfl) H)
theorem r_brickyardlaw13_ActionParses_13 {p1 : Option Addr} {m2 : Nat} {m3 : Nat} {p4 : Option Addr} {m5 : Nat} {m6 : Nat} {p7 : Option Addr} {m8 : Nat} {m9 : Nat} {m10 : Nat} {n11 : Int} {n12 : Int} {h :
  AW} {Q : Value → AW → Prop} (H : aP p4 fun m13 m14 => oB (natIdx n11 m5) fun m15 => oB (AW.rd h m13 (m14 + m15 * 4 + 1)) fun v16 => vSl v16 fun p17 m18 m19 => bC (decide (n12 <
  (↑m18 : Int))) (aP p4 fun m20 m21 => oB (natIdx n11 m5) fun m22 => oB (AW.rd h m20 (m21 + m22 * 4 + 1)) fun v23 => vSl v23 fun p24 m25 m26 => aP p24 fun m27 m28 => oB (natIdx n12
  m25) fun m29 => oB (AW.wr h m27 (m28 + m29 * 1) (Value.string (ByteArray.mk #[103, 111, 110, 101]))) fun h30 => unitAt P f_brickyardlaw13_ActionParses 13 [0, 3, 5, 6, 7, 8] [Value.slice p1 m2 m3,
  Value.slice p4 m5 m6, Value.slice p7 m8 m9, Value.pointer (some (Addr.mk m10 0 none)), Value.int IntKind.i64 n11, Value.int IntKind.i64 (IntKind.wrap IntKind.i64 (n12 + 1))] h30
  Q) (aP p4 fun m31 m32 => oB (natIdx n11 m5) fun m33 => oB (AW.wrL h m31 (m32 + m33 * 4) [Value.int IntKind.i64 0, Value.slice none 0 0, Value.int IntKind.i64 0, Value.slice none
  0 0]) fun h34 => unitAt P f_brickyardlaw13_ActionParses 10 [0, 3, 5, 6, 7] [Value.slice p1 m2 m3, Value.slice p4 m5 m6, Value.slice p7 m8 m9, Value.pointer (some (Addr.mk m10 0 none)), Value.int
  IntKind.i64 (IntKind.wrap IntKind.i64 (n11 + 1))] h34 Q)) : unitAt P f_brickyardlaw13_ActionParses 13 [0, 3, 5, 6, 7, 8] [Value.slice p1 m2 m3, Value.slice p4 m5 m6, Value.slice p7 m8 m9, Value.pointer
  (some (Addr.mk m10 0 none)), Value.int IntKind.i64 n11, Value.int IntKind.i64 n12] h Q := unit_ok (n := 400) (ann := annOf [(10, [0, 3, 5, 6, 7]), (13, [0, 3, 5, 6, 7, 8])])
  (Eq.mp (by kernel_rfl) H)
theorem r_brickyardlaw13_ActionNames {h : AW} {Q : Value → AW → Prop} (H : EvQ P f_brickyardlaw13_works [] h fun v1 h2 => vBool v1 fun b3 => bC (!b3) (Q (Value.bool false) h2) (unitAt P f_brickyardlaw13_ActionNames 5 [1, 2, 3] [Value.slice none 0
  0, Value.slice none 0 0, Value.int IntKind.i64 0] h2 Q)) : EvQ P f_brickyardlaw13_ActionNames [] h Q := fn_ok (n := 400) (ann := annOf [(5, [1, 2, 3]), (9, [1, 2, 4]), (13, [1, 2, 5])]) (Eq.mp (by
  kernel_rfl) H)
theorem r_brickyardlaw13_ActionNames_5 {p1 : Option Addr} {m2 : Nat} {m3 : Nat} {p4 : Option Addr} {m5 : Nat} {m6 : Nat} {n7 : Int} {h : AW} {Q : Value → AW → Prop} (H : bC (decide (n7 < 256)) (oP
  (appendB P (AW.addVar (AW.addVar h [Value.string (ByteArray.mk #[117, 112, 112, 101, 114])]) [Value.slice (some (Addr.mk (AW.next h) 0 none)) 1 1]) (Array.mk [ty_sl_sl_string, ty_sl_sl_string])
  [Value.slice p1 m2 m3, Value.slice (some (Addr.mk (AW.next (AW.addVar h [Value.string (ByteArray.mk #[117, 112, 112, 101, 114])])) 0 none)) 1 1]) fun v8 h9 => vSl v8 fun p10 m11
  m12 => unitAt P f_brickyardlaw13_ActionNames 5 [1, 2, 3] [Value.slice p10 m11 m12, Value.slice p4 m5 m6, Value.int IntKind.i64 (IntKind.wrap IntKind.i64 (n7 + 1))] h9 Q) (unitAt P f_brickyardlaw13_ActionNames 9 [1, 2, 4]
  [Value.slice p1 m2 m3, Value.slice p4 m5 m6, Value.int IntKind.i64 0] h Q)) : unitAt P f_brickyardlaw13_ActionNames 5 [1, 2, 3] [Value.slice p1 m2 m3, Value.slice p4 m5 m6, Value.int IntKind.i64 n7] h Q
  := unit_ok (n := 400) (ann := annOf [(5, [1, 2, 3]), (9, [1, 2, 4]), (13, [1, 2, 5])]) (Eq.mp (by kernel_rfl) H)
theorem r_brickyardlaw13_ActionNames_9 {p1 : Option Addr} {m2 : Nat} {m3 : Nat} {p4 : Option Addr} {m5 : Nat} {m6 : Nat} {n7 : Int} {h : AW} {Q : Value → AW → Prop} (H : bC (decide (n7 < 8)) (oP (appendB
  P (AW.addVar (AW.addVar h [Value.string (ByteArray.mk #[114, 101, 112, 101, 97, 116]), Value.string (ByteArray.mk #[49])]) [Value.slice (some (Addr.mk (AW.next h) 0 none)) 2 2])
  (Array.mk [ty_sl_sl_string, ty_sl_sl_string]) [Value.slice p4 m5 m6, Value.slice (some (Addr.mk (AW.next (AW.addVar h [Value.string (ByteArray.mk #[114, 101, 112, 101, 97, 116]), Value.string
  (ByteArray.mk #[49])])) 0 none)) 1 1]) fun v8 h9 => vSl v8 fun p10 m11 m12 => unitAt P f_brickyardlaw13_ActionNames 9 [1, 2, 4] [Value.slice p1 m2 m3, Value.slice p10 m11 m12, Value.int IntKind.i64
  (IntKind.wrap IntKind.i64 (n7 + 1))] h9 Q) (unitAt P f_brickyardlaw13_ActionNames 13 [1, 2, 5] [Value.slice p1 m2 m3, Value.slice p4 m5 m6, Value.int IntKind.i64 0] h Q)) : unitAt P f_brickyardlaw13_ActionNames 9 [1, 2, 4]
  [Value.slice p1 m2 m3, Value.slice p4 m5 m6, Value.int IntKind.i64 n7] h Q := unit_ok (n := 400) (ann := annOf [(5, [1, 2, 3]), (9, [1, 2, 4]), (13, [1, 2, 5])]) (Eq.mp (by
  kernel_rfl) H)
theorem r_brickyardlaw13_ActionNames_13 {p1 : Option Addr} {m2 : Nat} {m3 : Nat} {p4 : Option Addr} {m5 : Nat} {m6 : Nat} {n7 : Int} {h : AW} {Q : Value → AW → Prop} (H : bC (decide (n7 < 8)) (oP
  (appendB P (AW.addVar (AW.addVar h [Value.string (ByteArray.mk #[101, 110, 100])]) [Value.slice (some (Addr.mk (AW.next h) 0 none)) 1 1]) (Array.mk [ty_sl_sl_string, ty_sl_sl_string]) [Value.slice
  p4 m5 m6, Value.slice (some (Addr.mk (AW.next (AW.addVar h [Value.string (ByteArray.mk #[101, 110, 100])])) 0 none)) 1 1]) fun v8 h9 => vSl v8 fun p10 m11 m12 => unitAt P f_brickyardlaw13_ActionNames 13
  [1, 2, 5] [Value.slice p1 m2 m3, Value.slice p10 m11 m12, Value.int IntKind.i64 (IntKind.wrap IntKind.i64 (n7 + 1))] h9 Q) (EvQ P f_action_Parse [Value.slice p1 m2 m3] h fun v13 h14 =>
  vTup v13 fun l15 => lC l15 fun v16 l17 => vSl v16 fun p18 m19 m20 => lC l17 fun v21 l22 => vAgg v21 fun l23 => lC l23 fun v24 l25 => vInt IntKind.i64 v24 fun n26 => lC l25 fun
  v27 l28 => vInt IntKind.i64 v27 fun n29 => lN l28 (lN l22 (oB (AW.wrL (AW.addVar h14 [Value.int IntKind.i64 0, Value.int IntKind.i64 0]) (AW.next h14) 0 [Value.int IntKind.i64
  n26, Value.int IntKind.i64 n29]) fun h30 => oP (appendB P (AW.addVar (AW.addVar h30 [Value.string (ByteArray.mk #[117, 112, 112, 101, 114])]) [Value.slice (some (Addr.mk (AW.next
  h30) 0 none)) 1 1]) (Array.mk [ty_sl_sl_string, ty_sl_sl_string]) [Value.slice p1 m2 m3, Value.slice (some (Addr.mk (AW.next (AW.addVar h30 [Value.string (ByteArray.mk #[117, 112, 112, 101, 114])]))
  0 none)) 1 1]) fun v31 h32 => vSl v31 fun p33 m34 m35 => EvQ P f_action_Parse [Value.slice p33 m34 m35] h32 fun v36 h37 => vTup v36 fun l38 => lC l38 fun v39 l40 => vSl v39 fun p41 m42 m43
  => lC l40 fun v44 l45 => vAgg v44 fun l46 => lC l46 fun v47 l48 => vInt IntKind.i64 v47 fun n49 => lC l48 fun v50 l51 => vInt IntKind.i64 v50 fun n52 => lN l51 (lN l45 (oB
  (AW.wrL (AW.addVar h37 [Value.int IntKind.i64 0, Value.int IntKind.i64 0]) (AW.next h37) 0 [Value.int IntKind.i64 n49, Value.int IntKind.i64 n52]) fun h53 => EvQ P f_action_Parse
  [Value.slice p4 m5 m6] h53 fun v54 h55 => vTup v54 fun l56 => lC l56 fun v57 l58 => vSl v57 fun p59 m60 m61 => lC l58 fun v62 l63 => vAgg v62 fun l64 => lC l64 fun v65 l66 =>
  vInt IntKind.i64 v65 fun n67 => lC l66 fun v68 l69 => vInt IntKind.i64 v68 fun n70 => lN l69 (lN l63 (oB (AW.wrL (AW.addVar h55 [Value.int IntKind.i64 0, Value.int IntKind.i64
  0]) (AW.next h55) 0 [Value.int IntKind.i64 n67, Value.int IntKind.i64 n70]) fun h71 => oP (appendB P (AW.addVar (AW.addVar (AW.addVar (AW.addVar h71 [Value.string (ByteArray.mk
  #[114, 101, 112, 101, 97, 116]), Value.string (ByteArray.mk #[49])]) [Value.slice (some (Addr.mk (AW.next h71) 0 none)) 2 2]) [Value.string (ByteArray.mk #[101, 110, 100])])
  [Value.slice (some (Addr.mk (AW.next (AW.addVar (AW.addVar h71 [Value.string (ByteArray.mk #[114, 101, 112, 101, 97, 116]), Value.string (ByteArray.mk #[49])]) [Value.slice (some
  (Addr.mk (AW.next h71) 0 none)) 2 2])) 0 none)) 1 1]) (Array.mk [ty_sl_sl_string, ty_sl_sl_string]) [Value.slice p4 m5 m6, Value.slice (some (Addr.mk (AW.next (AW.addVar (AW.addVar (AW.addVar h71
  [Value.string (ByteArray.mk #[114, 101, 112, 101, 97, 116]), Value.string (ByteArray.mk #[49])]) [Value.slice (some (Addr.mk (AW.next h71) 0 none)) 2 2]) [Value.string
  (ByteArray.mk #[101, 110, 100])])) 0 none)) 1 1]) fun v72 h73 => vSl v72 fun p74 m75 m76 => oP (appendB P h73 (Array.mk [ty_sl_sl_string, ty_sl_sl_string]) [Value.slice (some (Addr.mk (AW.next
  (AW.addVar h71 [Value.string (ByteArray.mk #[114, 101, 112, 101, 97, 116]), Value.string (ByteArray.mk #[49])])) 0 none)) 1 1, Value.slice p74 m75 m76]) fun v77 h78 => vSl v77
  fun p79 m80 m81 => EvQ P f_action_Parse [Value.slice p79 m80 m81] h78 fun v82 h83 => vTup v82 fun l84 => lC l84 fun v85 l86 => vSl v85 fun p87 m88 m89 => lC l86 fun v90 l91 => vAgg v90 fun
  l92 => lC l92 fun v93 l94 => vInt IntKind.i64 v93 fun n95 => lC l94 fun v96 l97 => vInt IntKind.i64 v96 fun n98 => lN l97 (lN l91 (oB (AW.wrL (AW.addVar h83 [Value.int
  IntKind.i64 0, Value.int IntKind.i64 0]) (AW.next h83) 0 [Value.int IntKind.i64 n95, Value.int IntKind.i64 n98]) fun h99 => EvQ P f_action_Parse [Value.slice (some (Addr.mk (AW.next
  (AW.addVar (AW.addVar h99 [Value.string (ByteArray.mk #[114, 101, 112, 101, 97, 116]), Value.string (ByteArray.mk #[49, 48, 48, 48])]) [Value.string (ByteArray.mk #[101, 110,
  100])])) 0 none)) 2 2] (AW.addVar (AW.addVar (AW.addVar h99 [Value.string (ByteArray.mk #[114, 101, 112, 101, 97, 116]), Value.string (ByteArray.mk #[49, 48, 48, 48])])
  [Value.string (ByteArray.mk #[101, 110, 100])]) [Value.slice (some (Addr.mk (AW.next h99) 0 none)) 2 2, Value.slice (some (Addr.mk (AW.next (AW.addVar h99 [Value.string
  (ByteArray.mk #[114, 101, 112, 101, 97, 116]), Value.string (ByteArray.mk #[49, 48, 48, 48])])) 0 none)) 1 1]) fun v100 h101 => vTup v100 fun l102 => lC l102 fun v103 l104 => vSl
  v103 fun p105 m106 m107 => lC l104 fun v108 l109 => vAgg v108 fun l110 => lC l110 fun v111 l112 => vInt IntKind.i64 v111 fun n113 => lC l112 fun v114 l115 => vInt IntKind.i64
  v114 fun n116 => lN l115 (lN l109 (oB (AW.wrL (AW.addVar h101 [Value.int IntKind.i64 0, Value.int IntKind.i64 0]) (AW.next h101) 0 [Value.int IntKind.i64 n113, Value.int
  IntKind.i64 n116]) fun h117 => EvQ P f_action_Parse [Value.slice (some (Addr.mk (AW.next (AW.addVar (AW.addVar h117 [Value.string (ByteArray.mk #[114, 101, 112, 101, 97, 116]),
  Value.string (ByteArray.mk #[49, 48, 48, 49])]) [Value.string (ByteArray.mk #[101, 110, 100])])) 0 none)) 2 2] (AW.addVar (AW.addVar (AW.addVar h117 [Value.string (ByteArray.mk
  #[114, 101, 112, 101, 97, 116]), Value.string (ByteArray.mk #[49, 48, 48, 49])]) [Value.string (ByteArray.mk #[101, 110, 100])]) [Value.slice (some (Addr.mk (AW.next h117) 0
  none)) 2 2, Value.slice (some (Addr.mk (AW.next (AW.addVar h117 [Value.string (ByteArray.mk #[114, 101, 112, 101, 97, 116]), Value.string (ByteArray.mk #[49, 48, 48, 49])])) 0
  none)) 1 1]) fun v118 h119 => vTup v118 fun l120 => lC l120 fun v121 l122 => vSl v121 fun p123 m124 m125 => lC l122 fun v126 l127 => vAgg v126 fun l128 => lC l128 fun v129 l130
  => vInt IntKind.i64 v129 fun n131 => lC l130 fun v132 l133 => vInt IntKind.i64 v132 fun n134 => lN l133 (lN l127 (oB (AW.wrL (AW.addVar h119 [Value.int IntKind.i64 0, Value.int
  IntKind.i64 0]) (AW.next h119) 0 [Value.int IntKind.i64 n131, Value.int IntKind.i64 n134]) fun h135 => EvQ P f_action_Parse [Value.slice (some (Addr.mk (AW.next (AW.addVar (AW.addVar h135
  [Value.string (ByteArray.mk #[114, 101, 112, 101, 97, 116]), Value.string (ByteArray.mk #[48, 48])]) [Value.string (ByteArray.mk #[101, 110, 100])])) 0 none)) 2 2] (AW.addVar
  (AW.addVar (AW.addVar h135 [Value.string (ByteArray.mk #[114, 101, 112, 101, 97, 116]), Value.string (ByteArray.mk #[48, 48])]) [Value.string (ByteArray.mk #[101, 110, 100])])
  [Value.slice (some (Addr.mk (AW.next h135) 0 none)) 2 2, Value.slice (some (Addr.mk (AW.next (AW.addVar h135 [Value.string (ByteArray.mk #[114, 101, 112, 101, 97, 116]),
  Value.string (ByteArray.mk #[48, 48])])) 0 none)) 1 1]) fun v136 h137 => vTup v136 fun l138 => lC l138 fun v139 l140 => vSl v139 fun p141 m142 m143 => lC l140 fun v144 l145 =>
  vAgg v144 fun l146 => lC l146 fun v147 l148 => vInt IntKind.i64 v147 fun n149 => lC l148 fun v150 l151 => vInt IntKind.i64 v150 fun n152 => lN l151 (lN l145 (oB (AW.wrL
  (AW.addVar h137 [Value.int IntKind.i64 0, Value.int IntKind.i64 0]) (AW.next h137) 0 [Value.int IntKind.i64 n149, Value.int IntKind.i64 n152]) fun h153 => EvQ P f_action_Parse [Value.slice
  (some (Addr.mk (AW.next (AW.addVar h153 [Value.string (ByteArray.mk #[114, 101, 112, 101, 97, 116]), Value.string (ByteArray.mk #[50])])) 0 none)) 1 1] (AW.addVar (AW.addVar h153
  [Value.string (ByteArray.mk #[114, 101, 112, 101, 97, 116]), Value.string (ByteArray.mk #[50])]) [Value.slice (some (Addr.mk (AW.next h153) 0 none)) 2 2]) fun v154 h155 => vTup
  v154 fun l156 => lC l156 fun v157 l158 => vSl v157 fun p159 m160 m161 => lC l158 fun v162 l163 => vAgg v162 fun l164 => lC l164 fun v165 l166 => vInt IntKind.i64 v165 fun n167 =>
  lC l166 fun v168 l169 => vInt IntKind.i64 v168 fun n170 => lN l169 (lN l163 (oB (AW.wrL (AW.addVar h155 [Value.int IntKind.i64 0, Value.int IntKind.i64 0]) (AW.next h155) 0
  [Value.int IntKind.i64 n167, Value.int IntKind.i64 n170]) fun h171 => bC ((↑m19 : Int) == 256) (oB (AW.rd h171 (AW.next h14) 0) fun v172 => vInt IntKind.i64 v172 fun n173 => oB
  (AW.rd h171 (AW.next h14) 1) fun v174 => vInt IntKind.i64 v174 fun n175 => bC (n173 == 0 && (n175 == 0 && true)) (oB (AW.rd h171 (AW.next h37) 0) fun v176 => vInt IntKind.i64
  v176 fun n177 => oB (AW.rd h171 (AW.next h37) 1) fun v178 => vInt IntKind.i64 v178 fun n179 => bC (n177 == 3 && (n179 == 256 && true)) (EvQ P f_action_Deep [Value.slice p59 m60 m61] h171
  fun v180 h181 => vInt IntKind.i64 v180 fun n182 => bC (n182 == 8) (oB (AW.rd h181 (AW.next h55) 0) fun v183 => vInt IntKind.i64 v183 fun n184 => oB (AW.rd h181 (AW.next h55) 1)
  fun v185 => vInt IntKind.i64 v185 fun n186 => bC (n184 == 0 && (n186 == 0 && true)) (oB (AW.rd h181 (AW.next h83) 0) fun v187 => vInt IntKind.i64 v187 fun n188 => oB (AW.rd h181
  (AW.next h83) 1) fun v189 => vInt IntKind.i64 v189 fun n190 => bC (n188 == 132 && (n190 == 8 && true)) (oB (AW.rd h181 (AW.next h101) 0) fun v191 => vInt IntKind.i64 v191 fun
  n192 => oB (AW.rd h181 (AW.next h101) 1) fun v193 => vInt IntKind.i64 v193 fun n194 => bC (n192 == 0 && (n194 == 0 && true)) (oB (AW.rd h181 (AW.next h119) 0) fun v195 => vInt
  IntKind.i64 v195 fun n196 => oB (AW.rd h181 (AW.next h119) 1) fun v197 => vInt IntKind.i64 v197 fun n198 => bC (n196 == 130 && (n198 == 0 && true)) (oB (AW.rd h181 (AW.next h137)
  0) fun v199 => vInt IntKind.i64 v199 fun n200 => oB (AW.rd h181 (AW.next h137) 1) fun v201 => vInt IntKind.i64 v201 fun n202 => oB (AW.rd h181 (AW.next h119) 0) fun v203 => vInt
  IntKind.i64 v203 fun n204 => oB (AW.rd h181 (AW.next h119) 1) fun v205 => vInt IntKind.i64 v205 fun n206 => bC (n200 == n204 && (n202 == n206 && true)) (oB (AW.rd h181 (AW.next
  h155) 0) fun v207 => vInt IntKind.i64 v207 fun n208 => oB (AW.rd h181 (AW.next h155) 1) fun v209 => vInt IntKind.i64 v209 fun n210 => Q (Value.bool (n208 == 131 && (n210 == 1 &&
  true))) h181) (Q (Value.bool false) h181)) (Q (Value.bool false) h181)) (Q (Value.bool false) h181)) (Q (Value.bool false) h181)) (Q (Value.bool false) h181)) (Q (Value.bool
  false) h181)) (Q (Value.bool false) h171)) (Q (Value.bool false) h171)) (Q (Value.bool false) h171))))))))))))))))))) : unitAt P f_brickyardlaw13_ActionNames 13 [1, 2, 5] [Value.slice p1 m2 m3,
  Value.slice p4 m5 m6, Value.int IntKind.i64 n7] h Q := unit_ok (n := 400) (ann := annOf [(5, [1, 2, 3]), (9, [1, 2, 4]), (13, [1, 2, 5])]) (Eq.mp (by kernel_rfl) H)
theorem r_brickyardlaw13_ActionSame {p1 : Option Addr} {m2 : Nat} {m3 : Nat} {p4 : Option Addr} {m5 : Nat} {m6 : Nat} {h : AW} {Q : Value → AW → Prop} (H : EvQ P f_brickyardlaw13_works [] h fun v7 h8 => vBool v7 fun b9
  => bC (!b9) (Q (Value.bool false) h8) (EvQ P f_brickyardlaw13_great [Value.slice p1 m2 m3] h8 fun v10 h11 => vBool v10 fun b12 => bC b12 (Q (Value.bool true) h11) (EvQ P f_brickyardlaw13_great [Value.slice p4 m5
  m6] h11 fun v13 h14 => vBool v13 fun b15 => bC b15 (Q (Value.bool true) h14) (EvQ P f_action_Same [Value.slice p1 m2 m3, Value.slice p4 m5 m6] h14 fun v16 h17 => vBool v16 fun b18 => EvQ
  P f_brickyardref13_Same [Value.slice p1 m2 m3, Value.slice p4 m5 m6] h17 fun v19 h20 => vBool v19 fun b21 => bC (b18 == b21) (EvQ P f_action_Same [Value.slice p4 m5 m6, Value.slice p1 m2 m3] h20 fun v22
  h23 => vBool v22 fun b24 => EvQ P f_action_Same [Value.slice p1 m2 m3, Value.slice p4 m5 m6] h23 fun v25 h26 => vBool v25 fun b27 => bC (b24 == b27) (EvQ P f_action_Same [Value.slice p1 m2 m3,
  Value.slice p1 m2 m3] h26 fun v28 h29 => vBool v28 fun b30 => Q (Value.bool b30) h29) (Q (Value.bool false) h26)) (Q (Value.bool false) h20))))) : EvQ P f_brickyardlaw13_ActionSame [Value.slice p1 m2
  m3, Value.slice p4 m5 m6] h Q := fn_ok (n := 400) (ann := annOf []) (Eq.mp (by kernel_rfl) H)
theorem r_brickyardlaw13_ActionCut {p1 : Option Addr} {m2 : Nat} {m3 : Nat} {n4 : Int} {h : AW} {Q : Value → AW → Prop} (H : EvQ P f_brickyardlaw13_works [] h fun v5 h6 => vBool v5 fun b7 => bC (!b7) (Q (Value.bool
  false) h6) (EvQ P f_brickyardlaw13_wide [Value.slice p1 m2 m3] h6 fun v8 h9 => vBool v8 fun b10 => bC b10 (Q (Value.bool true) h9) (bC (decide (IntKind.wrap IntKind.i64 ((↑m2 : Int) + 1) = 0))
  False (bC (decide (Int.tmod n4 (IntKind.wrap IntKind.i64 ((↑m2 : Int) + 1)) < 0)) (unitAt P f_brickyardlaw13_ActionCut 8 [0, 5] [Value.slice p1 m2 m3, Value.int IntKind.i64 (IntKind.wrap IntKind.i64
  (Int.tmod n4 (IntKind.wrap IntKind.i64 ((↑m2 : Int) + 1)) + IntKind.wrap IntKind.i64 ((↑m2 : Int) + 1)))] h9 Q) (unitAt P f_brickyardlaw13_ActionCut 8 [0, 5] [Value.slice p1 m2 m3, Value.int
  IntKind.i64 (Int.tmod n4 (IntKind.wrap IntKind.i64 ((↑m2 : Int) + 1)))] h9 Q))))) : EvQ P f_brickyardlaw13_ActionCut [Value.slice p1 m2 m3, Value.int IntKind.i64 n4] h Q := fn_ok (n := 400) (ann :=
  annOf [(8, [0, 5])]) (Eq.mp (by kernel_rfl) H)
theorem r_brickyardlaw13_ActionCut_8 {p1 : Option Addr} {m2 : Nat} {m3 : Nat} {n4 : Int} {h : AW} {Q : Value → AW → Prop} (H : EvQ P f_action_Parse [Value.slice p1 m2 m3] h fun v5 h6 => vTup v5 fun l7 => lC l7
  fun v8 l9 => vSl v8 fun p10 m11 m12 => lC l9 fun v13 l14 => vAgg v13 fun l15 => lC l15 fun v16 l17 => vInt IntKind.i64 v16 fun n18 => lC l17 fun v19 l20 => vInt IntKind.i64 v19
  fun n21 => lN l20 (lN l14 (oB (AW.wrL (AW.addVar h6 [Value.int IntKind.i64 0, Value.int IntKind.i64 0]) (AW.next h6) 0 [Value.int IntKind.i64 n18, Value.int IntKind.i64 n21]) fun
  h22 => oB (natBnd n4 m3) fun m23 => bC (Nat.ble m23 m3) (oB (shO p1 0) fun p24 => EvQ P f_action_Parse [Value.slice p24 (m23 - 0) (m3 - 0)] h22 fun v25 h26 => vTup v25 fun l27 => lC l27
  fun v28 l29 => vSl v28 fun p30 m31 m32 => lC l29 fun v33 l34 => vAgg v33 fun l35 => lC l35 fun v36 l37 => vInt IntKind.i64 v36 fun n38 => lC l37 fun v39 l40 => vInt IntKind.i64
  v39 fun n41 => lN l40 (lN l34 (oB (AW.wrL (AW.addVar h26 [Value.int IntKind.i64 0, Value.int IntKind.i64 0]) (AW.next h26) 0 [Value.int IntKind.i64 n38, Value.int IntKind.i64
  n41]) fun h42 => oB (AW.rd h42 (AW.next h6) 0) fun v43 => vInt IntKind.i64 v43 fun n44 => oB (AW.rd h42 (AW.next h6) 1) fun v45 => vInt IntKind.i64 v45 fun n46 => bC (!(n44 == 0
  && (n46 == 0 && true))) (oB (AW.rd h42 (AW.next h6) 1) fun v47 => vInt IntKind.i64 v47 fun n48 => bC (decide (n48 ≥ n4)) (Q (Value.bool true) h42) (oB (AW.rd h42 (AW.next h26) 0)
  fun v49 => vInt IntKind.i64 v49 fun n50 => oB (AW.rd h42 (AW.next h26) 1) fun v51 => vInt IntKind.i64 v51 fun n52 => oB (AW.rd h42 (AW.next h6) 0) fun v53 => vInt IntKind.i64 v53
  fun n54 => oB (AW.rd h42 (AW.next h6) 1) fun v55 => vInt IntKind.i64 v55 fun n56 => bC (n50 == n54 && (n52 == n56 && true)) (Q (Value.bool ((↑m31 : Int) == 0)) h42) (Q
  (Value.bool false) h42))) (oB (AW.rd h42 (AW.next h26) 0) fun v57 => vInt IntKind.i64 v57 fun n58 => oB (AW.rd h42 (AW.next h26) 1) fun v59 => vInt IntKind.i64 v59 fun n60 => bC
  (!(n58 == 0 && (n60 == 0 && true))) (oB (AW.rd h42 (AW.next h26) 0) fun v61 => vInt IntKind.i64 v61 fun n62 => oB (AW.rd h42 (AW.next h26) 1) fun v63 => vInt IntKind.i64 v63 fun
  n64 => bC (n62 == 131 && (n64 == n4 && true)) (Q (Value.bool ((↑m31 : Int) == 0)) h42) (Q (Value.bool false) h42)) (bC (decide ((↑m31 : Int) ≤ (↑m11 : Int))) (oB (natBnd (↑m31 :
  Int) m12) fun m65 => bC (Nat.ble m65 m12) (oB (shO p10 0) fun p66 => EvQ P f_action_Same [Value.slice p30 m31 m32, Value.slice p66 (m65 - 0) (m12 - 0)] h42 fun v67 h68 => vBool v67 fun
  b69 => Q (Value.bool b69) h68) False) (Q (Value.bool false) h42)))))) False))) : unitAt P f_brickyardlaw13_ActionCut 8 [0, 5] [Value.slice p1 m2 m3, Value.int IntKind.i64 n4] h Q := unit_ok (n := 400)
  (ann := annOf [(8, [0, 5])]) (Eq.mp (by kernel_rfl) H)
theorem r_brickyardlaw13_ActionJoins {p1 : Option Addr} {m2 : Nat} {m3 : Nat} {p4 : Option Addr} {m5 : Nat} {m6 : Nat} {n7 : Int} {h : AW} {Q : Value → AW → Prop} (H : EvQ P f_brickyardlaw13_works [] h fun v8 h9 => vBool
  v8 fun b10 => bC (!b10) (Q (Value.bool false) h9) (EvQ P f_brickyardlaw13_great [Value.slice p1 m2 m3] h9 fun v11 h12 => vBool v11 fun b13 => bC b13 (Q (Value.bool true) h12) (EvQ P f_brickyardlaw13_great
  [Value.slice p4 m5 m6] h12 fun v14 h15 => vBool v14 fun b16 => bC b16 (Q (Value.bool true) h15) (EvQ P f_action_May [Value.slice p1 m2 m3] h15 fun v17 h18 => vBool v17 fun b19 => bC
  (!b19) (Q (Value.bool true) h18) (EvQ P f_action_May [Value.slice p4 m5 m6] h18 fun v20 h21 => vBool v20 fun b22 => bC (!b22) (Q (Value.bool true) h21) (EvQ P f_action_Lines [Value.slice p1 m2 m3]
  h21 fun v23 h24 => vTup v23 fun l25 => lC l25 fun v26 l27 => vSl v26 fun p28 m29 m30 => lC l27 fun v31 l32 => vInt IntKind.i64 v31 fun n33 => lN l32 (EvQ P f_action_Lines [Value.slice p4
  m5 m6] h24 fun v34 h35 => vTup v34 fun l36 => lC l36 fun v37 l38 => vSl v37 fun p39 m40 m41 => lC l38 fun v42 l43 => vInt IntKind.i64 v42 fun n44 => lN l43 (bC (n33 != 0) (Q
  (Value.bool false) h35) (bC (n44 != 0) (Q (Value.bool false) h35) (oP (appendB P (AW.addVar h35 []) (Array.mk [ty_sl_api_Stmt, ty_sl_api_Stmt]) [Value.slice (some (Addr.mk (AW.next h35) 0 none)) 0
  0, Value.slice p1 m2 m3]) fun v45 h46 => vSl v45 fun p47 m48 m49 => oP (appendB P h46 (Array.mk [ty_sl_api_Stmt, ty_sl_api_Stmt]) [Value.slice p47 m48 m49, Value.slice p4 m5 m6]) fun v50 h51 =>
  vSl v50 fun p52 m53 m54 => oP (appendB P (AW.addVar h51 []) (Array.mk [ty_sl_sl_string, ty_sl_sl_string]) [Value.slice (some (Addr.mk (AW.next h51) 0 none)) 0 0, Value.slice p28 m29 m30]) fun v55
  h56 => vSl v55 fun p57 m58 m59 => oP (appendB P h56 (Array.mk [ty_sl_sl_string, ty_sl_sl_string]) [Value.slice p57 m58 m59, Value.slice p39 m40 m41]) fun v60 h61 => vSl v60 fun p62 m63 m64 => EvQ P
  f_action_Parse [Value.slice p62 m63 m64] h61 fun v65 h66 => vTup v65 fun l67 => lC l67 fun v68 l69 => vSl v68 fun p70 m71 m72 => lC l69 fun v73 l74 => vAgg v73 fun l75 => lC l75 fun v76
  l77 => vInt IntKind.i64 v76 fun n78 => lC l77 fun v79 l80 => vInt IntKind.i64 v79 fun n81 => lN l80 (lN l74 (oB (AW.wrL (AW.addVar h66 [Value.int IntKind.i64 0, Value.int
  IntKind.i64 0]) (AW.next h66) 0 [Value.int IntKind.i64 n78, Value.int IntKind.i64 n81]) fun h82 => EvQ P f_action_Size [Value.slice p1 m2 m3] h82 fun v83 h84 => vInt IntKind.i64 v83 fun
  n85 => EvQ P f_action_Size [Value.slice p4 m5 m6] h84 fun v86 h87 => vInt IntKind.i64 v86 fun n88 => bC (decide (IntKind.wrap IntKind.i64 (n85 + n88) > 256)) (oB (AW.rd h87 (AW.next h66)
  0) fun v89 => vInt IntKind.i64 v89 fun n90 => bC (n90 != 3) (Q (Value.bool false) h87) (bC ((↑m71 : Int) != 0) (Q (Value.bool false) h87) (EvQ P f_action_May [Value.slice p52 m53 m54]
  h87 fun v91 h92 => vBool v91 fun b93 => bC b93 (Q (Value.bool false) h92) (unitAt P f_brickyardlaw13_ActionJoins 16 [0, 2, 7, 13] [Value.slice p1 m2 m3, Value.int IntKind.i64 n7, Value.slice p28 m29 m30,
  Value.pointer (some (Addr.mk (AW.next h66) 0 none))] h92 Q)))) (oB (AW.rd h87 (AW.next h66) 0) fun v94 => vInt IntKind.i64 v94 fun n95 => oB (AW.rd h87 (AW.next h66) 1) fun v96
  => vInt IntKind.i64 v96 fun n97 => bC (!(n95 == 0 && (n97 == 0 && true))) (Q (Value.bool false) h87) (EvQ P f_action_Same [Value.slice p70 m71 m72, Value.slice p52 m53 m54] h87 fun v98
  h99 => vBool v98 fun b100 => bC (!b100) (Q (Value.bool false) h99) (EvQ P f_action_Deep [Value.slice p52 m53 m54] h99 fun v101 h102 => vInt IntKind.i64 v101 fun n103 => EvQ P f_action_Deep
  [Value.slice p1 m2 m3] h102 fun v104 h105 => vInt IntKind.i64 v104 fun n106 => EvQ P f_action_Deep [Value.slice p4 m5 m6] h105 fun v107 h108 => vInt IntKind.i64 v107 fun n109 => bC (n103
  != if n109 > n106 then n109 else n106) (Q (Value.bool false) h108) (unitAt P f_brickyardlaw13_ActionJoins 16 [0, 2, 7, 13] [Value.slice p1 m2 m3, Value.int IntKind.i64 n7, Value.slice p28 m29 m30,
  Value.pointer (some (Addr.mk (AW.next h66) 0 none))] h108 Q)))))))))))))))) : EvQ P f_brickyardlaw13_ActionJoins [Value.slice p1 m2 m3, Value.slice p4 m5 m6, Value.int IntKind.i64 n7] h Q := fn_ok (n :=
  400) (ann := annOf [(16, [0, 2, 7, 13]), (19, [0, 2, 7, 13])]) (Eq.mp (by kernel_rfl) H)
theorem r_brickyardlaw13_ActionJoins_16 {p1 : Option Addr} {m2 : Nat} {m3 : Nat} {n4 : Int} {p5 : Option Addr} {m6 : Nat} {m7 : Nat} {m8 : Nat} {h : AW} {Q : Value → AW → Prop} (H : bC (decide (Int.tmod
  n4 1001 < 0)) (unitAt P f_brickyardlaw13_ActionJoins 19 [0, 2, 7, 13] [Value.slice p1 m2 m3, Value.int IntKind.i64 (IntKind.wrap IntKind.i64 (Int.tmod n4 1001 + 1001)), Value.slice p5 m6 m7,
  Value.pointer (some (Addr.mk m8 0 none))] h Q) (unitAt P f_brickyardlaw13_ActionJoins 19 [0, 2, 7, 13] [Value.slice p1 m2 m3, Value.int IntKind.i64 (Int.tmod n4 1001), Value.slice p5 m6 m7, Value.pointer
  (some (Addr.mk m8 0 none))] h Q)) : unitAt P f_brickyardlaw13_ActionJoins 16 [0, 2, 7, 13] [Value.slice p1 m2 m3, Value.int IntKind.i64 n4, Value.slice p5 m6 m7, Value.pointer (some (Addr.mk m8 0 none))]
  h Q := unit_ok (n := 400) (ann := annOf [(16, [0, 2, 7, 13]), (19, [0, 2, 7, 13])]) (Eq.mp (by kernel_rfl) H)
theorem r_brickyardlaw13_ActionJoins_19 {p1 : Option Addr} {m2 : Nat} {m3 : Nat} {n4 : Int} {p5 : Option Addr} {m6 : Nat} {m7 : Nat} {m8 : Nat} {h : AW} {Q : Value → AW → Prop} (H : EvQ P f_brickyardref13_Digits [Value.int
  IntKind.i64 n4] h fun v9 h10 => vStr v9 fun s11 => oP (appendB P (AW.addVar (AW.addVar h10 [Value.string (ByteArray.mk #[114, 101, 112, 101, 97, 116]), Value.string s11])
  [Value.slice (some (Addr.mk (AW.next h10) 0 none)) 2 2]) (Array.mk [ty_sl_sl_string, ty_sl_sl_string]) [Value.slice (some (Addr.mk (AW.next (AW.addVar h10 [Value.string (ByteArray.mk #[114, 101,
  112, 101, 97, 116]), Value.string s11])) 0 none)) 1 1, Value.slice p5 m6 m7]) fun v12 h13 => vSl v12 fun p14 m15 m16 => oP (appendB P (AW.addVar (AW.addVar h13 [Value.string
  (ByteArray.mk #[101, 110, 100])]) [Value.slice (some (Addr.mk (AW.next h13) 0 none)) 1 1]) (Array.mk [ty_sl_sl_string, ty_sl_sl_string]) [Value.slice p14 m15 m16, Value.slice (some (Addr.mk (AW.next
  (AW.addVar h13 [Value.string (ByteArray.mk #[101, 110, 100])])) 0 none)) 1 1]) fun v17 h18 => vSl v17 fun p19 m20 m21 => EvQ P f_action_Parse [Value.slice p19 m20 m21] h18 fun v22 h23 =>
  vTup v22 fun l24 => lC l24 fun v25 l26 => vSl v25 fun p27 m28 m29 => lC l26 fun v30 l31 => vAgg v30 fun l32 => lC l32 fun v33 l34 => vInt IntKind.i64 v33 fun n35 => lC l34 fun
  v36 l37 => vInt IntKind.i64 v36 fun n38 => lN l37 (lN l31 (oB (AW.wrL h23 m8 0 [Value.int IntKind.i64 n35, Value.int IntKind.i64 n38]) fun h39 => EvQ P f_action_Size [Value.slice p1 m2
  m3] (AW.addVar h39 [Value.int IntKind.i64 10, Value.slice none 0 0, Value.int IntKind.i64 n4, Value.slice p1 m2 m3]) fun v40 h41 => vInt IntKind.i64 v40 fun n42 => bC (decide
  (n42 < 256)) (EvQ P f_action_Deep [Value.slice p1 m2 m3] h41 fun v43 h44 => vInt IntKind.i64 v43 fun n45 => bC (decide (n45 < 8)) (oB (AW.rd h44 m8 0) fun v46 => vInt IntKind.i64 v46 fun
  n47 => oB (AW.rd h44 m8 1) fun v48 => vInt IntKind.i64 v48 fun n49 => bC (n47 == 0 && (n49 == 0 && true)) (EvQ P f_action_Same [Value.slice p27 m28 m29, Value.slice (some (Addr.mk
  (AW.next h39) 0 none)) 1 1] h44 fun v50 h51 => vBool v50 fun b52 => bC b52 (EvQ P f_action_May [Value.slice (some (Addr.mk (AW.next h39) 0 none)) 1 1] h51 fun v53 h54 => vBool v53 fun
  b55 => bC b55 (EvQ P f_action_Size [Value.slice (some (Addr.mk (AW.next h39) 0 none)) 1 1] h54 fun v56 h57 => vInt IntKind.i64 v56 fun n58 => EvQ P f_action_Size [Value.slice p1 m2 m3] h57 fun v59
  h60 => vInt IntKind.i64 v59 fun n61 => bC (n58 == IntKind.wrap IntKind.i64 (n61 + 1)) (EvQ P f_action_Deep [Value.slice (some (Addr.mk (AW.next h39) 0 none)) 1 1] h60 fun v62 h63 => vInt
  IntKind.i64 v62 fun n64 => EvQ P f_action_Deep [Value.slice p1 m2 m3] h63 fun v65 h66 => vInt IntKind.i64 v65 fun n67 => Q (Value.bool (n64 == IntKind.wrap IntKind.i64 (n67 + 1))) h66) (Q
  (Value.bool false) h60)) (Q (Value.bool false) h54)) (Q (Value.bool false) h51)) (Q (Value.bool false) h44)) (oB (AW.rd h44 m8 0) fun v68 => vInt IntKind.i64 v68 fun n69 => bC
  (n69 == 3) (bC ((↑m28 : Int) == 0) (EvQ P f_action_May [Value.slice (some (Addr.mk (AW.next h39) 0 none)) 1 1] h44 fun v70 h71 => vBool v70 fun b72 => Q (Value.bool !b72) h71) (Q
  (Value.bool false) h44)) (oB (AW.rd h44 m8 0) fun v73 => vInt IntKind.i64 v73 fun n74 => bC (n74 == 132) (bC ((↑m28 : Int) == 0) (EvQ P f_action_May [Value.slice (some (Addr.mk (AW.next
  h39) 0 none)) 1 1] h44 fun v75 h76 => vBool v75 fun b77 => Q (Value.bool !b77) h76) (Q (Value.bool false) h44)) (Q (Value.bool false) h44)))) (oB (AW.rd h41 m8 0) fun v78 => vInt
  IntKind.i64 v78 fun n79 => bC (n79 == 3) (bC ((↑m28 : Int) == 0) (EvQ P f_action_May [Value.slice (some (Addr.mk (AW.next h39) 0 none)) 1 1] h41 fun v80 h81 => vBool v80 fun b82 => Q
  (Value.bool !b82) h81) (Q (Value.bool false) h41)) (oB (AW.rd h41 m8 0) fun v83 => vInt IntKind.i64 v83 fun n84 => bC (n84 == 132) (bC ((↑m28 : Int) == 0) (EvQ P f_action_May
  [Value.slice (some (Addr.mk (AW.next h39) 0 none)) 1 1] h41 fun v85 h86 => vBool v85 fun b87 => Q (Value.bool !b87) h86) (Q (Value.bool false) h41)) (Q (Value.bool false)
  h41)))))) : unitAt P f_brickyardlaw13_ActionJoins 19 [0, 2, 7, 13] [Value.slice p1 m2 m3, Value.int IntKind.i64 n4, Value.slice p5 m6 m7, Value.pointer (some (Addr.mk m8 0 none))] h Q := unit_ok (n :=
  400) (ann := annOf [(16, [0, 2, 7, 13]), (19, [0, 2, 7, 13])]) (Eq.mp (by kernel_rfl) H)
theorem r_brickyardlaw13_ActionPrints {p1 : Option Addr} {m2 : Nat} {m3 : Nat} {h : AW} {Q : Value → AW → Prop} (H : EvQ P f_brickyardlaw13_works [] h fun v4 h5 => vBool v4 fun b6 => bC (!b6) (Q (Value.bool false) h5) (EvQ
  P f_brickyardlaw13_great [Value.slice p1 m2 m3] h5 fun v7 h8 => vBool v7 fun b9 => bC b9 (Q (Value.bool true) h8) (EvQ P f_action_Lines [Value.slice p1 m2 m3] h8 fun v10 h11 => vTup v10 fun l12 => lC l12
  fun v13 l14 => vSl v13 fun p15 m16 m17 => lC l14 fun v18 l19 => vInt IntKind.i64 v18 fun n20 => lN l19 (EvQ P f_brickyardref13_Lines [Value.slice p1 m2 m3] h11 fun v21 h22 => vTup v21 fun l23 =>
  lC l23 fun v24 l25 => vSl v24 fun p26 m27 m28 => lC l25 fun v29 l30 => vInt IntKind.i64 v29 fun n31 => lN l30 (EvQ P f_action_Print [Value.slice p1 m2 m3] h22 fun v32 h33 => vTup v32 fun
  l34 => lC l34 fun v35 l36 => vStr v35 fun s37 => lC l36 fun v38 l39 => vInt IntKind.i64 v38 fun n40 => lN l39 (EvQ P f_brickyardref13_Print [Value.slice p1 m2 m3] h33 fun v41 h42 => vTup v41 fun
  l43 => lC l43 fun v44 l45 => vStr v44 fun s46 => lC l45 fun v47 l48 => vInt IntKind.i64 v47 fun n49 => lN l48 (EvQ P f_action_May [Value.slice p1 m2 m3] h42 fun v50 h51 => vBool v50 fun
  b52 => EvQ P f_brickyardref13_May [Value.slice p1 m2 m3] h51 fun v53 h54 => vBool v53 fun b55 => bC (b52 == b55) (EvQ P f_action_Size [Value.slice p1 m2 m3] h54 fun v56 h57 => vInt IntKind.i64 v56 fun
  n58 => EvQ P f_brickyardref13_Size [Value.slice p1 m2 m3] h57 fun v59 h60 => vInt IntKind.i64 v59 fun n61 => bC (n58 == n61) (EvQ P f_action_Deep [Value.slice p1 m2 m3] h60 fun v62 h63 => vInt IntKind.i64
  v62 fun n64 => EvQ P f_brickyardref13_Deep [Value.slice p1 m2 m3] h63 fun v65 h66 => vInt IntKind.i64 v65 fun n67 => bC (n64 == n67) (EvQ P f_brickyardref13_Alike [Value.slice p15 m16 m17, Value.slice p26 m27 m28]
  h66 fun v68 h69 => vBool v68 fun b70 => bC b70 (bC (n20 == n31) (bC (bEq s37 s46) (Q (Value.bool (n40 == n49)) h69) (Q (Value.bool false) h69)) (Q (Value.bool false) h69)) (Q
  (Value.bool false) h69)) (Q (Value.bool false) h66)) (Q (Value.bool false) h60)) (Q (Value.bool false) h54)))))))) : EvQ P f_brickyardlaw13_ActionPrints [Value.slice p1 m2 m3] h Q := fn_ok (n := 400) (ann
  := annOf []) (Eq.mp (by kernel_rfl) H)
theorem r_brickyardlaw13_ActionBack {p1 : Option Addr} {m2 : Nat} {m3 : Nat} {h : AW} {Q : Value → AW → Prop} (H : EvQ P f_brickyardlaw13_works [] h fun v4 h5 => vBool v4 fun b6 => bC (!b6) (Q (Value.bool false) h5)
  (EvQ P f_brickyardlaw13_wide [Value.slice p1 m2 m3] h5 fun v7 h8 => vBool v7 fun b9 => bC b9 (Q (Value.bool true) h8) (EvQ P f_action_Parse [Value.slice p1 m2 m3] h8 fun v10 h11 => vTup v10 fun l12 => lC
  l12 fun v13 l14 => vSl v13 fun p15 m16 m17 => lC l14 fun v18 l19 => vAgg v18 fun l20 => lC l20 fun v21 l22 => vInt IntKind.i64 v21 fun n23 => lC l22 fun v24 l25 => vInt
  IntKind.i64 v24 fun n26 => lN l25 (lN l19 (oB (AW.wrL (AW.addVar h11 [Value.int IntKind.i64 0, Value.int IntKind.i64 0]) (AW.next h11) 0 [Value.int IntKind.i64 n23, Value.int
  IntKind.i64 n26]) fun h27 => oB (AW.rd h27 (AW.next h11) 0) fun v28 => vInt IntKind.i64 v28 fun n29 => oB (AW.rd h27 (AW.next h11) 1) fun v30 => vInt IntKind.i64 v30 fun n31 =>
  bC (!(n29 == 0 && (n31 == 0 && true))) (bC ((↑m16 : Int) == 0) (oB (AW.rd h27 (AW.next h11) 0) fun v32 => vInt IntKind.i64 v32 fun n33 => bC (n33 != 0) (oB (AW.rd h27 (AW.next
  h11) 1) fun v34 => vInt IntKind.i64 v34 fun n35 => bC (decide (n35 ≥ 0)) (oB (AW.rd h27 (AW.next h11) 1) fun v36 => vInt IntKind.i64 v36 fun n37 => Q (Value.bool (decide (n37 ≤
  (↑m2 : Int)))) h27) (Q (Value.bool false) h27)) (Q (Value.bool false) h27)) (Q (Value.bool false) h27)) (EvQ P f_action_Lines [Value.slice p15 m16 m17] h27 fun v38 h39 => vTup v38 fun l40
  => lC l40 fun v41 l42 => vSl v41 fun p43 m44 m45 => lC l42 fun v46 l47 => vInt IntKind.i64 v46 fun n48 => lN l47 (EvQ P f_action_Print [Value.slice p15 m16 m17] h39 fun v49 h50 => vTup v49
  fun l51 => lC l51 fun v52 l53 => vStr v52 fun s54 => lC l53 fun v55 l56 => vInt IntKind.i64 v55 fun n57 => lN l56 (EvQ P f_action_May [Value.slice p15 m16 m17] h50 fun v58 h59 => vBool
  v58 fun b60 => bC (!b60) (Q (Value.bool false) h59) (bC (n48 != 0) (Q (Value.bool false) h59) (bC (n57 != 0) (Q (Value.bool false) h59) (EvQ P f_brickyardref13_Alike [Value.slice p43 m44 m45,
  Value.slice p1 m2 m3] h59 fun v61 h62 => vBool v61 fun b63 => bC (!b63) (Q (Value.bool false) h62) (EvQ P f_action_Parse [Value.slice p43 m44 m45] h62 fun v64 h65 => vTup v64 fun l66 => lC
  l66 fun v67 l68 => vSl v67 fun p69 m70 m71 => lC l68 fun v72 l73 => vAgg v72 fun l74 => lC l74 fun v75 l76 => vInt IntKind.i64 v75 fun n77 => lC l76 fun v78 l79 => vInt
  IntKind.i64 v78 fun n80 => lN l79 (lN l73 (oB (AW.wrL (AW.addVar h65 [Value.int IntKind.i64 0, Value.int IntKind.i64 0]) (AW.next h65) 0 [Value.int IntKind.i64 n77, Value.int
  IntKind.i64 n80]) fun h81 => oB (AW.rd h81 (AW.next h65) 0) fun v82 => vInt IntKind.i64 v82 fun n83 => oB (AW.rd h81 (AW.next h65) 1) fun v84 => vInt IntKind.i64 v84 fun n85 =>
  bC (!(n83 == 0 && (n85 == 0 && true))) (Q (Value.bool false) h81) (EvQ P f_action_Same [Value.slice p15 m16 m17, Value.slice p69 m70 m71] h81 fun v86 h87 => vBool v86 fun b88 => bC (!b88)
  (Q (Value.bool false) h87) (bC (decide ((↑(ByteArray.size s54) : Int) > 32768)) (Q (Value.bool true) h87) (EvQ P f_lex_Lines [Value.string s54] h87 fun v89 h90 => vTup v89 fun l91 => lC
  l91 fun v92 l93 => vSl v92 fun p94 m95 m96 => lC l93 fun v97 l98 => vAgg v97 fun l99 => lC l99 fun v100 l101 => vInt IntKind.i64 v100 fun n102 => lC l101 fun v103 l104 => vInt
  IntKind.i64 v103 fun n105 => lN l104 (lN l98 (oB (AW.wrL (AW.addVar h90 [Value.int IntKind.i64 0, Value.int IntKind.i64 0]) (AW.next h90) 0 [Value.int IntKind.i64 n102, Value.int
  IntKind.i64 n105]) fun h106 => oB (AW.rd h106 (AW.next h90) 0) fun v107 => vInt IntKind.i64 v107 fun n108 => oB (AW.rd h106 (AW.next h90) 1) fun v109 => vInt IntKind.i64 v109 fun
  n110 => bC (!(n108 == 0 && (n110 == 0 && true))) (Q (Value.bool false) h106) (bC ((↑m95 : Int) != (↑m2 : Int)) (Q (Value.bool false) h106) (unitAt P f_brickyardlaw13_ActionBack 21 [0, 11, 13]
  [Value.slice p1 m2 m3, Value.slice p94 m95 m96, Value.int IntKind.i64 0] h106 Q))))))))))))))))))))) : EvQ P f_brickyardlaw13_ActionBack [Value.slice p1 m2 m3] h Q := fn_ok (n := 400) (ann := annOf
  [(21, [0, 11, 13]), (26, [0, 11, 13, 14])]) (Eq.mp (by kernel_rfl) H)
theorem r_brickyardlaw13_ActionBack_21 {p1 : Option Addr} {m2 : Nat} {m3 : Nat} {p4 : Option Addr} {m5 : Nat} {m6 : Nat} {n7 : Int} {h : AW} {Q : Value → AW → Prop} (H : bC (decide (n7 < (↑m2 : Int)))
  (aP p4 fun m8 m9 => oB (natIdx n7 m5) fun m10 => oB (AW.rd h m8 (m9 + m10 * 3 + 2)) fun v11 => vSl v11 fun p12 m13 m14 => aP p1 fun m15 m16 => oB (natIdx n7 m2) fun m17 => oB
  (AW.rd h m15 (m16 + m17 * 1)) fun v18 => vSl v18 fun p19 m20 m21 => bC ((↑m13 : Int) != (↑m20 : Int)) (Q (Value.bool false) h) (aP p4 fun m22 m23 => oB (natIdx n7 m5) fun m24 =>
  oB (AW.rd h m22 (m23 + m24 * 3 + 1)) fun v25 => vBool v25 fun b26 => bC b26 (Q (Value.bool false) h) (unitAt P f_brickyardlaw13_ActionBack 26 [0, 11, 13, 14] [Value.slice p1 m2 m3, Value.slice p4 m5
  m6, Value.int IntKind.i64 n7, Value.int IntKind.i64 0] h Q))) (Q (Value.bool true) h)) : unitAt P f_brickyardlaw13_ActionBack 21 [0, 11, 13] [Value.slice p1 m2 m3, Value.slice p4 m5 m6, Value.int
  IntKind.i64 n7] h Q := unit_ok (n := 400) (ann := annOf [(21, [0, 11, 13]), (26, [0, 11, 13, 14])]) (Eq.mp (by kernel_rfl) H)
theorem r_brickyardlaw13_ActionBack_26 {p1 : Option Addr} {m2 : Nat} {m3 : Nat} {p4 : Option Addr} {m5 : Nat} {m6 : Nat} {n7 : Int} {n8 : Int} {h : AW} {Q : Value → AW → Prop} (H : aP p1 fun m9 m10 =>
  oB (natIdx n7 m2) fun m11 => oB (AW.rd h m9 (m10 + m11 * 1)) fun v12 => vSl v12 fun p13 m14 m15 => bC (decide (n8 < (↑m14 : Int))) (aP p4 fun m16 m17 => oB (natIdx n7 m5) fun m18
  => oB (AW.rd h m16 (m17 + m18 * 3 + 2)) fun v19 => vSl v19 fun p20 m21 m22 => aP p20 fun m23 m24 => oB (natIdx n8 m21) fun m25 => oB (AW.rd h m23 (m24 + m25 * 5)) fun v26 => vStr
  v26 fun s27 => aP p1 fun m28 m29 => oB (natIdx n7 m2) fun m30 => oB (AW.rd h m28 (m29 + m30 * 1)) fun v31 => vSl v31 fun p32 m33 m34 => aP p32 fun m35 m36 => oB (natIdx n8 m33)
  fun m37 => oB (AW.rd h m35 (m36 + m37 * 1)) fun v38 => vStr v38 fun s39 => bC (!bEq s27 s39) (Q (Value.bool false) h) (aP p4 fun m40 m41 => oB (natIdx n7 m5) fun m42 => oB (AW.rd
  h m40 (m41 + m42 * 3 + 2)) fun v43 => vSl v43 fun p44 m45 m46 => aP p44 fun m47 m48 => oB (natIdx n8 m45) fun m49 => oB (AW.rd h m47 (m48 + m49 * 5 + 4)) fun v50 => vBool v50 fun
  b51 => bC b51 (Q (Value.bool false) h) (unitAt P f_brickyardlaw13_ActionBack 26 [0, 11, 13, 14] [Value.slice p1 m2 m3, Value.slice p4 m5 m6, Value.int IntKind.i64 n7, Value.int IntKind.i64
  (IntKind.wrap IntKind.i64 (n8 + 1))] h Q))) (unitAt P f_brickyardlaw13_ActionBack 21 [0, 11, 13] [Value.slice p1 m2 m3, Value.slice p4 m5 m6, Value.int IntKind.i64 (IntKind.wrap IntKind.i64 (n7 + 1))]
  h Q)) : unitAt P f_brickyardlaw13_ActionBack 26 [0, 11, 13, 14] [Value.slice p1 m2 m3, Value.slice p4 m5 m6, Value.int IntKind.i64 n7, Value.int IntKind.i64 n8] h Q := unit_ok (n := 400) (ann := annOf
  [(21, [0, 11, 13]), (26, [0, 11, 13, 14])]) (Eq.mp (by kernel_rfl) H)
theorem r_brickyardlaw13_wide {p1 : Option Addr} {m2 : Nat} {m3 : Nat} {h : AW} {Q : Value → AW → Prop} (H : unitAt P f_brickyardlaw13_wide 3 [0, 3, 4] [Value.slice p1 m2 m3, Value.int IntKind.i64 0, Value.int
  IntKind.i64 0] h Q) : EvQ P f_brickyardlaw13_wide [Value.slice p1 m2 m3] h Q := fn_ok (n := 400) (ann := annOf [(3, [0, 3, 4]), (7, [0, 3, 4, 5])]) (Eq.mp (by kernel_rfl) H)
theorem r_brickyardlaw13_wide_3 {p1 : Option Addr} {m2 : Nat} {m3 : Nat} {n4 : Int} {n5 : Int} {h : AW} {Q : Value → AW → Prop} (H : bC (decide (n5 < (↑m2 : Int))) (bC (decide (n4 < 262144))
  (unitAt P f_brickyardlaw13_wide 7 [0, 3, 4, 5] [Value.slice p1 m2 m3, Value.int IntKind.i64 (IntKind.wrap IntKind.i64 (n4 + 1)), Value.int IntKind.i64 n5, Value.int IntKind.i64 0] h Q) (Q
  (Value.bool (decide (n4 ≥ 262144))) h)) (Q (Value.bool (decide (n4 ≥ 262144))) h)) : unitAt P f_brickyardlaw13_wide 3 [0, 3, 4] [Value.slice p1 m2 m3, Value.int IntKind.i64 n4, Value.int
  IntKind.i64 n5] h Q := unit_ok (n := 400) (ann := annOf [(3, [0, 3, 4]), (7, [0, 3, 4, 5])]) (Eq.mp (by kernel_rfl) H)
theorem r_brickyardlaw13_wide_7 {p1 : Option Addr} {m2 : Nat} {m3 : Nat} {n4 : Int} {n5 : Int} {n6 : Int} {h : AW} {Q : Value → AW → Prop} (H : aP p1 fun m7 m8 => oB (natIdx n5 m2) fun m9 => oB
  (AW.rd h m7 (m8 + m9 * 1)) fun v10 => vSl v10 fun p11 m12 m13 => bC (decide (n6 < (↑m12 : Int))) (bC (decide (n4 < 262144)) (aP p1 fun m14 m15 => oB (natIdx n5 m2) fun m16 => oB
  (AW.rd h m14 (m15 + m16 * 1)) fun v17 => vSl v17 fun p18 m19 m20 => aP p18 fun m21 m22 => oB (natIdx n6 m19) fun m23 => oB (AW.rd h m21 (m22 + m23 * 1)) fun v24 => vStr v24 fun
  s25 => unitAt P f_brickyardlaw13_wide 7 [0, 3, 4, 5] [Value.slice p1 m2 m3, Value.int IntKind.i64 (IntKind.wrap IntKind.i64 (n4 + IntKind.wrap IntKind.i64 (1 + (↑(ByteArray.size s25) : Int)))),
  Value.int IntKind.i64 n5, Value.int IntKind.i64 (IntKind.wrap IntKind.i64 (n6 + 1))] h Q) (unitAt P f_brickyardlaw13_wide 3 [0, 3, 4] [Value.slice p1 m2 m3, Value.int IntKind.i64 n4, Value.int
  IntKind.i64 (IntKind.wrap IntKind.i64 (n5 + 1))] h Q)) (unitAt P f_brickyardlaw13_wide 3 [0, 3, 4] [Value.slice p1 m2 m3, Value.int IntKind.i64 n4, Value.int IntKind.i64 (IntKind.wrap IntKind.i64
  (n5 + 1))] h Q)) : unitAt P f_brickyardlaw13_wide 7 [0, 3, 4, 5] [Value.slice p1 m2 m3, Value.int IntKind.i64 n4, Value.int IntKind.i64 n5, Value.int IntKind.i64 n6] h Q := unit_ok (n := 400)
  (ann := annOf [(3, [0, 3, 4]), (7, [0, 3, 4, 5])]) (Eq.mp (by kernel_rfl) H)
theorem r_brickyardlaw13_great {p1 : Option Addr} {m2 : Nat} {m3 : Nat} {h : AW} {Q : Value → AW → Prop} (H : EvQ P f_brickyardlaw13_weight [Value.slice p1 m2 m3, Value.int IntKind.i64 262144, Value.int IntKind.i64
  0] h fun v4 h5 => vInt IntKind.i64 v4 fun n6 => Q (Value.bool (decide (n6 ≥ 262144))) h5) : EvQ P f_brickyardlaw13_great [Value.slice p1 m2 m3] h Q := fn_ok (n := 400) (ann := annOf []) (Eq.mp (by
  kernel_rfl) H)
theorem r_brickyardlaw13_weight {p1 : Option Addr} {m2 : Nat} {m3 : Nat} {n4 : Int} {n5 : Int} {h : AW} {Q : Value → AW → Prop} (H : unitAt P f_brickyardlaw13_weight 3 [0, 1, 2, 7, 8] [Value.slice p1 m2 m3, Value.int
  IntKind.i64 n4, Value.int IntKind.i64 n5, Value.int IntKind.i64 0, Value.int IntKind.i64 0] h Q) : EvQ P f_brickyardlaw13_weight [Value.slice p1 m2 m3, Value.int IntKind.i64 n4, Value.int
  IntKind.i64 n5] h Q := fn_ok (n := 400) (ann := annOf [(3, [0, 1, 2, 7, 8]), (7, [0, 1, 2, 7, 8, 9])]) (Eq.mp (by kernel_rfl) H)
theorem r_brickyardlaw13_weight_3 {p1 : Option Addr} {m2 : Nat} {m3 : Nat} {n4 : Int} {n5 : Int} {n6 : Int} {n7 : Int} {h : AW} {Q : Value → AW → Prop} (H : bC (decide (n7 < (↑m2 : Int))) (bC
  (decide (n6 < n4)) (unitAt P f_brickyardlaw13_weight 7 [0, 1, 2, 7, 8, 9] [Value.slice p1 m2 m3, Value.int IntKind.i64 n4, Value.int IntKind.i64 n5, Value.int IntKind.i64 (IntKind.wrap IntKind.i64
  (n6 + 1)), Value.int IntKind.i64 n7, Value.int IntKind.i64 0] h Q) (Q (Value.int IntKind.i64 n6) h)) (Q (Value.int IntKind.i64 n6) h)) : unitAt P f_brickyardlaw13_weight 3 [0, 1, 2, 7, 8]
  [Value.slice p1 m2 m3, Value.int IntKind.i64 n4, Value.int IntKind.i64 n5, Value.int IntKind.i64 n6, Value.int IntKind.i64 n7] h Q := unit_ok (n := 400) (ann := annOf [(3, [0, 1,
  2, 7, 8]), (7, [0, 1, 2, 7, 8, 9])]) (Eq.mp (by kernel_rfl) H)
theorem r_brickyardlaw13_weight_7 {p1 : Option Addr} {m2 : Nat} {m3 : Nat} {n4 : Int} {n5 : Int} {n6 : Int} {n7 : Int} {n8 : Int} {h : AW} {Q : Value → AW → Prop} (H : aP p1 fun m9 m10 => oB
  (natIdx n7 m2) fun m11 => oB (AW.rd h m9 (m10 + m11 * 4 + 1)) fun v12 => vSl v12 fun p13 m14 m15 => bC (decide (n8 < (↑m14 : Int))) (bC (decide (n6 < n4)) (aP p1 fun m16 m17 =>
  oB (natIdx n7 m2) fun m18 => oB (AW.rd h m16 (m17 + m18 * 4 + 1)) fun v19 => vSl v19 fun p20 m21 m22 => aP p20 fun m23 m24 => oB (natIdx n8 m21) fun m25 => oB (AW.rd h m23 (m24 +
  m25 * 1)) fun v26 => vStr v26 fun s27 => unitAt P f_brickyardlaw13_weight 7 [0, 1, 2, 7, 8, 9] [Value.slice p1 m2 m3, Value.int IntKind.i64 n4, Value.int IntKind.i64 n5, Value.int IntKind.i64
  (IntKind.wrap IntKind.i64 (n6 + IntKind.wrap IntKind.i64 (1 + (↑(ByteArray.size s27) : Int)))), Value.int IntKind.i64 n7, Value.int IntKind.i64 (IntKind.wrap IntKind.i64 (n8 +
  1))] h Q) (bC (decide (n5 > 60)) (Q (Value.int IntKind.i64 n4) h) (aP p1 fun m28 m29 => oB (natIdx n7 m2) fun m30 => oB (AW.rd h m28 (m29 + m30 * 4 + 3)) fun v31 => vSl v31 fun
  p32 m33 m34 => EvQ P f_brickyardlaw13_weight [Value.slice p32 m33 m34, Value.int IntKind.i64 (IntKind.wrap IntKind.i64 (n4 - n6)), Value.int IntKind.i64 (IntKind.wrap IntKind.i64 (n5 + 1))] h fun
  v35 h36 => vInt IntKind.i64 v35 fun n37 => unitAt P f_brickyardlaw13_weight 3 [0, 1, 2, 7, 8] [Value.slice p1 m2 m3, Value.int IntKind.i64 n4, Value.int IntKind.i64 n5, Value.int IntKind.i64
  (IntKind.wrap IntKind.i64 (n6 + n37)), Value.int IntKind.i64 (IntKind.wrap IntKind.i64 (n7 + 1))] h36 Q))) (bC (decide (n5 > 60)) (Q (Value.int IntKind.i64 n4) h) (aP p1 fun m38
  m39 => oB (natIdx n7 m2) fun m40 => oB (AW.rd h m38 (m39 + m40 * 4 + 3)) fun v41 => vSl v41 fun p42 m43 m44 => EvQ P f_brickyardlaw13_weight [Value.slice p42 m43 m44, Value.int IntKind.i64
  (IntKind.wrap IntKind.i64 (n4 - n6)), Value.int IntKind.i64 (IntKind.wrap IntKind.i64 (n5 + 1))] h fun v45 h46 => vInt IntKind.i64 v45 fun n47 => unitAt P f_brickyardlaw13_weight 3 [0, 1, 2, 7, 8]
  [Value.slice p1 m2 m3, Value.int IntKind.i64 n4, Value.int IntKind.i64 n5, Value.int IntKind.i64 (IntKind.wrap IntKind.i64 (n6 + n47)), Value.int IntKind.i64 (IntKind.wrap
  IntKind.i64 (n7 + 1))] h46 Q))) : unitAt P f_brickyardlaw13_weight 7 [0, 1, 2, 7, 8, 9] [Value.slice p1 m2 m3, Value.int IntKind.i64 n4, Value.int IntKind.i64 n5, Value.int IntKind.i64 n6,
  Value.int IntKind.i64 n7, Value.int IntKind.i64 n8] h Q := unit_ok (n := 400) (ann := annOf [(3, [0, 1, 2, 7, 8]), (7, [0, 1, 2, 7, 8, 9])]) (Eq.mp (by kernel_rfl) H)
end Go.Proofs.YtgdkekdedgkglaaDoor
end

section
/- What is played: how great lists and lines are. -/
namespace Go.Proofs.YtgdkekdedgkglaaDoor
open Go.Abs Go.Abs.Fo
set_option maxRecDepth 100000
attribute [local irreducible] unitAt EvQ
variable {h : AW} {μ : Paint} {ρ : Store} {Q : Value → AW → Prop}

theorem wrap_mid {n : Int} (h1 : -400000000000000 ≤ n) (h2 : n ≤ 400000000000000) : IntKind.wrap .i64 n = n := Go.Abs.wrap_small (Int.le_trans (by decide) h1) (Int.lt_of_le_of_lt h2 (by decide))
theorem wide_words (O : Own h μ ρ) {ps : List Wds} {a : Option Addr} {cap : Nat} (X : Lns ρ ps a) (L : Long (ps.map Wds.x)) {j : Nat} (hj : j < ps.length) {n0 : Int}
    (ht : ∀ n, 0 ≤ n → n ≤ 262144 + 140737488355329 → n = wA 262144 ps[j].x n0 → unitAt P f_brickyardlaw13_wide 3 [0, 3, 4] [.slice a ps.length cap, .int .i64 n, .int .i64 ((j + 1 : Nat) : Int)] h Q) :
    ∀ (d k : Nat) (n : Int), ps[j].x.length - k = d → k ≤ ps[j].x.length → 0 ≤ n → n ≤ 262144 + 140737488355329 → wA 262144 (ps[j].x.drop k) n = wA 262144 ps[j].x n0 →
      unitAt P f_brickyardlaw13_wide 7 [0, 3, 4, 5] [.slice a ps.length cap, .int .i64 n, .int .i64 (j : Int), .int .i64 (k : Int)] h Q := by
  have hl := L.2 ps[j].x (List.mem_map_of_mem (List.getElem_mem hj))
  have hlen := L.1
  simp only [List.length_map] at hlen
  intro d
  induction d with
  | zero =>
    intro k n hd hk h0 h1 he
    have : k = ps[j].x.length := by omega
    subst this
    rw [List.drop_length] at he
    refine r_brickyardlaw13_wide_7 ?_
    refine ln_at O X rfl rfl hj fun V => ?_
    rw [geI (Nat.le_refl _)]
    simp only [oB_some, bC_true, bC_false, vInt_int, vBool_bool, vStr_string, vPtr_pointer, vSl_slice, vMap_map, vFun_func, vAgg_agg, vTup_tuple, vIfc_nil, vIfc_iface, lC_cons, lN_nil, aP_some, shO_none, shO_some, Option.isNone_none, Option.isNone_some, Bool.not_true, Bool.not_false]
    rw [wrapS (by omega)]
    exact ht n h0 h1 he
  | succ d ih =>
    intro k n hd hk h0 h1 he
    have hkl : k < ps[j].x.length := by omega
    refine r_brickyardlaw13_wide_7 ?_
    refine ln_at O X rfl rfl hj fun V => ?_
    rw [ltI hkl]
    simp only [oB_some, bC_true, bC_false, vInt_int, vBool_bool, vStr_string, vPtr_pointer, vSl_slice, vMap_map, vFun_func, vAgg_agg, vTup_tuple, vIfc_nil, vIfc_iface, lC_cons, lN_nil, aP_some, shO_none, shO_some, Option.isNone_none, Option.isNone_some, Bool.not_true, Bool.not_false]
    rw [List.drop_eq_getElem_cons hkl, wA] at he
    refine bC_iff (fun e => ?_) (fun e => ?_)
    · have e : n < 262144 := of_decide_eq_true e
      rw [if_pos e] at he
      refine ln_at O X rfl rfl hj fun V => ?_
      refine wd_at O V rfl rfl hkl ?_
      have hz := hl.2 _ (List.getElem_mem hkl)
      rw [wrap_small (n := 1 + (ps[j].x[k].size : Int)) (by omega) (by omega), wrap_small (n := n + (1 + (ps[j].x[k].size : Int))) (by omega) (by omega), wrapS (by omega)]
      exact ih (k + 1) _ (by omega) (by omega) (by omega) (by omega) he
    · have e : ¬ n < 262144 := of_decide_eq_false e
      rw [if_neg e] at he
      rw [wrapS (by omega)]
      exact ht n h0 h1 he
theorem wide_loop (O : Own h μ ρ) {ps : List Wds} {a : Option Addr} {cap : Nat} (X : Lns ρ ps a) (L : Long (ps.map Wds.x)) :
    ∀ (d j : Nat) (n : Int), ps.length - j = d → j ≤ ps.length → 0 ≤ n → n ≤ 262144 + 140737488355329 → Q (.bool (decide (wL ((ps.drop j).map Wds.x) n ≥ 262144))) h →
      unitAt P f_brickyardlaw13_wide 3 [0, 3, 4] [.slice a ps.length cap, .int .i64 n, .int .i64 (j : Int)] h Q := by
  intro d
  induction d with
  | zero =>
    intro j n hd hj h0 h1 hq
    refine r_brickyardlaw13_wide_3 ?_
    rw [geI (by omega)]
    simp only [oB_some, bC_true, bC_false, vInt_int, vBool_bool, vStr_string, vPtr_pointer, vSl_slice, vMap_map, vFun_func, vAgg_agg, vTup_tuple, vIfc_nil, vIfc_iface, lC_cons, lN_nil, aP_some, shO_none, shO_some, Option.isNone_none, Option.isNone_some, Bool.not_true, Bool.not_false]
    rw [List.drop_eq_nil_of_le (by omega)] at hq
    exact hq
  | succ d ih =>
    intro j n hd hj h0 h1 hq
    have hlt : j < ps.length := by omega
    refine r_brickyardlaw13_wide_3 ?_
    rw [ltI hlt]
    simp only [oB_some, bC_true, bC_false, vInt_int, vBool_bool, vStr_string, vPtr_pointer, vSl_slice, vMap_map, vFun_func, vAgg_agg, vTup_tuple, vIfc_nil, vIfc_iface, lC_cons, lN_nil, aP_some, shO_none, shO_some, Option.isNone_none, Option.isNone_some, Bool.not_true, Bool.not_false]
    rw [List.drop_eq_getElem_cons hlt, List.map_cons, wL] at hq
    refine bC_iff (fun e => ?_) (fun e => ?_)
    · have e : n < 262144 := of_decide_eq_true e
      rw [if_pos e] at hq
      rw [wrap_small (n := n + 1) (by omega) (by omega)]
      refine wide_words O X L hlt (n0 := n + 1) (fun n2 g0 g1 g2 => ?_) _ 0 (n + 1) rfl (by omega) (by omega) (by omega) rfl
      exact ih (j + 1) n2 (by omega) (by omega) g0 g1 (by rw [g2]; exact hq)
    · have e : ¬ n < 262144 := of_decide_eq_false e
      rw [if_neg e] at hq
      exact hq
theorem wide_ok (O : Own h μ ρ) {ps : List Wds} {a : Option Addr} {cap : Nat} (X : Lns ρ ps a) (L : Long (ps.map Wds.x)) (hq : Q (.bool (wideM (ps.map Wds.x))) h) :
    EvQ P f_brickyardlaw13_wide [.slice a ps.length cap] h Q :=
  r_brickyardlaw13_wide (wide_loop O X L _ 0 0 rfl (by omega) (by omega) (by omega) hq)

/-- Behind the words: the body is weighed. -/
def WTail (Q : Value → AW → Prop) (h : AW) (a : Option Addr) (N cap : Nat) (most deep n : Int) (i : Nat) : Prop :=
  bC (decide (deep > 60)) (Q (.int .i64 most) h) (aP a fun m28 m29 => oB (natIdx (i : Int) N) fun m30 => oB (AW.rd h m28 (m29 + m30 * 4 + 3)) fun v31 => vSl v31 fun p32 m33 m34 =>
    EvQ P f_brickyardlaw13_weight [.slice p32 m33 m34, .int .i64 (IntKind.wrap .i64 (most - n)), .int .i64 (IntKind.wrap .i64 (deep + 1))] h fun v35 h36 => vInt .i64 v35 fun n37 =>
      unitAt P f_brickyardlaw13_weight 3 [0, 1, 2, 7, 8] [.slice a N cap, .int .i64 most, .int .i64 deep, .int .i64 (IntKind.wrap .i64 (n + n37)), .int .i64 (IntKind.wrap .i64 ((i : Int) + 1))] h36 Q)
theorem weight_words (O : Own h μ ρ) {pre rest body : F} {op kk : Int} {args : List Str} {a : Option Addr} {c : List Value} {cap : Nat} {most deep : Int} (X : Vw ρ [] a c) (L : Lies (Vw ρ []) (pre.app (.cons op args kk body rest)) c)
    (hm : most ≤ 262144) (hs : ∀ s, s ∈ args → s.size ≤ 140737488355328) (hal : args.length ≤ 140737488355328) {n0 : Int}
    (ht : ∀ n, 0 ≤ n → n ≤ 262144 + 140737488355329 → n = wA most args n0 → WTail Q h a (pre.app (.cons op args kk body rest)).len cap most deep n pre.len) :
    ∀ (d k : Nat) (n : Int), args.length - k = d → k ≤ args.length → 0 ≤ n → n ≤ 262144 + 140737488355329 → wA most (args.drop k) n = wA most args n0 →
      unitAt P f_brickyardlaw13_weight 7 [0, 1, 2, 7, 8, 9] [.slice a (pre.app (.cons op args kk body rest)).len cap, .int .i64 most, .int .i64 deep, .int .i64 n, .int .i64 (pre.len : Int), .int .i64 (k : Int)] h Q := by
  intro d
  induction d with
  | zero =>
    intro k n hd hk h0 h1 he
    have : k = args.length := by omega
    subst this
    rw [List.drop_length] at he
    refine r_brickyardlaw13_weight_7 ?_
    refine st_open O X L rfl rfl fun i off aa ac ba bc va la SA => ?_
    refine oB_bind (SA O Fra.refl).r1 ?_
    simp only [oB_some, bC_true, bC_false, vInt_int, vBool_bool, vStr_string, vPtr_pointer, vSl_slice, vMap_map, vFun_func, vAgg_agg, vTup_tuple, vIfc_nil, vIfc_iface, lC_cons, lN_nil, aP_some, shO_none, shO_some, Option.isNone_none, Option.isNone_some, Bool.not_true, Bool.not_false]
    rw [geI (Nat.le_refl _)]
    simp only [oB_some, bC_true, bC_false, vInt_int, vBool_bool, vStr_string, vPtr_pointer, vSl_slice, vMap_map, vFun_func, vAgg_agg, vTup_tuple, vIfc_nil, vIfc_iface, lC_cons, lN_nil, aP_some, shO_none, shO_some, Option.isNone_none, Option.isNone_some, Bool.not_true, Bool.not_false]
    exact ht n h0 h1 he
  | succ d ih =>
    intro k n hd hk h0 h1 he
    have hkl : k < args.length := by omega
    refine r_brickyardlaw13_weight_7 ?_
    refine st_open O X L rfl rfl fun i off aa ac ba bc va la SA => ?_
    refine oB_bind (SA O Fra.refl).r1 ?_
    simp only [oB_some, bC_true, bC_false, vInt_int, vBool_bool, vStr_string, vPtr_pointer, vSl_slice, vMap_map, vFun_func, vAgg_agg, vTup_tuple, vIfc_nil, vIfc_iface, lC_cons, lN_nil, aP_some, shO_none, shO_some, Option.isNone_none, Option.isNone_some, Bool.not_true, Bool.not_false]
    rw [ltI hkl]
    simp only [oB_some, bC_true, bC_false, vInt_int, vBool_bool, vStr_string, vPtr_pointer, vSl_slice, vMap_map, vFun_func, vAgg_agg, vTup_tuple, vIfc_nil, vIfc_iface, lC_cons, lN_nil, aP_some, shO_none, shO_some, Option.isNone_none, Option.isNone_some, Bool.not_true, Bool.not_false]
    rw [List.drop_eq_getElem_cons hkl, wA] at he
    refine bC_iff (fun e => ?_) (fun e => ?_)
    · have e : n < most := of_decide_eq_true e
      rw [if_pos e] at he
      refine st_open O X L rfl rfl fun i off aa ac ba bc va la SA => ?_
      refine oB_bind (SA O Fra.refl).r1 ?_
      simp only [oB_some, bC_true, bC_false, vInt_int, vBool_bool, vStr_string, vPtr_pointer, vSl_slice, vMap_map, vFun_func, vAgg_agg, vTup_tuple, vIfc_nil, vIfc_iface, lC_cons, lN_nil, aP_some, shO_none, shO_some, Option.isNone_none, Option.isNone_some, Bool.not_true, Bool.not_false]
      refine wd_at O va rfl rfl hkl ?_
      have hz := hs args[k] (List.getElem_mem hkl)
      rw [wrap_small (n := 1 + (args[k].size : Int)) (by omega) (by omega), wrap_small (n := n + (1 + (args[k].size : Int))) (by omega) (by omega), wrapS (by omega)]
      exact ih (k + 1) _ (by omega) (by omega) (by omega) (by omega) he
    · have e : ¬ n < most := of_decide_eq_false e
      rw [if_neg e] at he
      exact ht n h0 h1 he
theorem weight_loop (O : Own h μ ρ) : ∀ (rest : F) {Q : Value → AW → Prop} {pre : F} {a : Option Addr} {c : List Value} {cap : Nat} {most n : Int} {e : Nat}, Vw ρ [] a c → Lies (Vw ρ []) (pre.app rest) c → most ≤ 262144 → e ≤ 61 → Fits rest → 0 ≤ n → n ≤ 99 * 281474976710656 → (pre.app rest).len ≤ 140737488355328 →
    Q (.int .i64 (wt rest most (61 - e : Int) n)) h → unitAt P f_brickyardlaw13_weight 3 [0, 1, 2, 7, 8] [.slice a (pre.app rest).len cap, .int .i64 most, .int .i64 (61 - e : Int), .int .i64 n, .int .i64 (pre.len : Int)] h Q
  | .nil, Q, pre, a, c, cap, most, n, e, X, L, hm, he, hf, h0, h1, hl, hq => by
    refine r_brickyardlaw13_weight_3 ?_
    rw [F.app_nil, geI (Nat.le_refl _)]
    simp only [oB_some, bC_true, bC_false, vInt_int, vBool_bool, vStr_string, vPtr_pointer, vSl_slice, vMap_map, vFun_func, vAgg_agg, vTup_tuple, vIfc_nil, vIfc_iface, lC_cons, lN_nil, aP_some, shO_none, shO_some, Option.isNone_none, Option.isNone_some, Bool.not_true, Bool.not_false]
    exact hq
  | .cons op args kk body rest, Q, pre, a, c, cap, most, n, e, X, L, hm, he, hf, h0, h1, hl, hq => by
    have hlt : pre.len < (pre.app (.cons op args kk body rest)).len := app_lt
    obtain ⟨f1, f2, f3, f4, f5⟩ := hf
    refine r_brickyardlaw13_weight_3 ?_
    rw [ltI hlt]
    simp only [oB_some, bC_true, bC_false, vInt_int, vBool_bool, vStr_string, vPtr_pointer, vSl_slice, vMap_map, vFun_func, vAgg_agg, vTup_tuple, vIfc_nil, vIfc_iface, lC_cons, lN_nil, aP_some, shO_none, shO_some, Option.isNone_none, Option.isNone_some, Bool.not_true, Bool.not_false]
    rw [wt] at hq
    refine bC_iff (fun e1 => ?_) (fun e1 => ?_)
    · have e1 : n < most := of_decide_eq_true e1
      rw [if_pos e1] at hq
      rw [wrap_small (n := n + 1) (by omega) (by omega)]
      refine weight_words O X L hm f2 f1 (n0 := n + 1) (fun n2 g0 g1 g2 => ?_) _ 0 (n + 1) rfl (by omega) (by omega) (by omega) rfl
      subst g2
      unfold WTail
      refine bC_iff (fun e2 => ?_) (fun e2 => ?_)
      · rw [if_pos (of_decide_eq_true e2)] at hq
        exact hq
      · have e2 := of_decide_eq_false e2
        rw [if_neg e2] at hq
        obtain ⟨e', rfl⟩ : ∃ e', e = e' + 1 := ⟨e - 1, by omega⟩
        have hdd : (61 - ((e' + 1 : Nat) : Int) + 1 : Int) = (61 - e' : Int) := by omega
        refine st_open O X L rfl rfl fun i off aa ac ba bc va la SA => ?_
        refine oB_bind (SA O Fra.refl).r3 ?_
        simp only [oB_some, bC_true, bC_false, vInt_int, vBool_bool, vStr_string, vPtr_pointer, vSl_slice, vMap_map, vFun_func, vAgg_agg, vTup_tuple, vIfc_nil, vIfc_iface, lC_cons, lN_nil, aP_some, shO_none, shO_some, Option.isNone_none, Option.isNone_some, Bool.not_true, Bool.not_false]
        obtain ⟨bcells, v2, v3⟩ := la
        rw [wrap_small (n := 61 - ((e' + 1 : Nat) : Int) + 1) (by omega) (by omega), hdd, wrap_mid (n := most - wA most args (n + 1)) (by omega) (by omega)]
        rw [hdd] at hq
        refine r_brickyardlaw13_weight ?_
        have hb := wt_le (f := body) (most := most - wA most args (n + 1)) (n := 0) (e := e') (by omega) f4 (by omega) (by omega)
        refine weight_loop O body (pre := .nil) v2 v3 (by omega) (by omega) f4 (by omega) (by omega) f3 ?_
        simp only [oB_some, bC_true, bC_false, vInt_int, vBool_bool, vStr_string, vPtr_pointer, vSl_slice, vMap_map, vFun_func, vAgg_agg, vTup_tuple, vIfc_nil, vIfc_iface, lC_cons, lN_nil, aP_some, shO_none, shO_some, Option.isNone_none, Option.isNone_some, Bool.not_true, Bool.not_false]
        have hbb : wt body (most - wA most args (n + 1)) (61 - e') 0 ≤ 62 * 281474976710656 := by
          rcases hb.2 with x | x <;> omega
        rw [wrap_small (n := wA most args (n + 1) + wt body (most - wA most args (n + 1)) (61 - e') 0) (by omega) (by omega), wrapS (by omega)]
        have e3 : ∀ g : F, (pre.snoc op args kk body).app g = pre.app (.cons op args kk body g) := fun g => F.snoc_app pre op args kk body g
        have e4 : (pre.snoc op args kk body).len = pre.len + 1 := F.snoc_len pre op args kk body
        have := weight_loop O rest (Q := Q) (pre := pre.snoc op args kk body) (a := a) (c := c) (cap := cap) (most := most) (n := wA most args (n + 1) + wt body (most - wA most args (n + 1)) (61 - e') 0) (e := e' + 1) X (by rw [e3]; exact L) hm he f5 (by omega) (by omega) (by rw [e3]; exact hl) hq
        rw [e3, e4] at this
        exact this
    · rw [if_neg (of_decide_eq_false e1)] at hq
      exact hq
theorem great_ok (O : Own h μ ρ) {f : F} {a : Option Addr} {cap : Nat} (X : Ly ρ f a) (hf : Fits f) (hl : f.len ≤ 140737488355328) (hq : Q (.bool (greatM f)) h) : EvQ P f_brickyardlaw13_great [.slice a f.len cap] h Q := by
  obtain ⟨c, v, l⟩ := X
  refine r_brickyardlaw13_great (r_brickyardlaw13_weight ?_)
  refine weight_loop O f (pre := .nil) (e := 61) v l (by omega) (by omega) hf (by omega) (by omega) hl ?_
  simp only [oB_some, bC_true, bC_false, vInt_int, vBool_bool, vStr_string, vPtr_pointer, vSl_slice, vMap_map, vFun_func, vAgg_agg, vTup_tuple, vIfc_nil, vIfc_iface, lC_cons, lN_nil, aP_some, shO_none, shO_some, Option.isNone_none, Option.isNone_some, Bool.not_true, Bool.not_false]
  exact hq

/-! The same statements? -/
theorem eq_big_loop {a b : Option Addr} {x y : List Str} {c d : Nat} (O : Own h μ ρ) (X : Vw ρ [] a (strs x)) (Y : Vw ρ [] b (strs y)) (hl : x.length = y.length) (hx : x.length ≤ 140737488355328) (hq : Q (.bool (decide (x = y))) h) :
    ∀ (n k : Nat), x.length - k = n → k ≤ x.length → x.take k = y.take k → unitAt P f_slices_Equal_sl_string_string 4 [0, 1, 12, 13] [.slice a x.length c, .slice b y.length d, .int .i64 (x.length : Int), .int .i64 (k : Int)] h Q := by
  intro n
  induction n with
  | zero =>
    intro k hn hk he
    refine r_slices_Equal_sl_string_string_4 ?_
    rw [geI (by omega)]
    simp only [oB_some, bC_true, bC_false, vInt_int, vBool_bool, vStr_string, vPtr_pointer, vSl_slice, vMap_map, vFun_func, vAgg_agg, vTup_tuple, vIfc_nil, vIfc_iface, lC_cons, lN_nil, aP_some, shO_none, shO_some, Option.isNone_none, Option.isNone_some, Bool.not_true, Bool.not_false]
    have : k = x.length := by omega
    subst this
    rw [List.take_length, hl, List.take_length] at he
    rw [← decide_eq_true he]; exact hq
  | succ n ih =>
    intro k hn hk he
    refine r_slices_Equal_sl_string_string_4 ?_
    have hlt : k < x.length := by omega
    rw [ltI hlt]
    simp only [oB_some, bC_true, bC_false, vInt_int, vBool_bool, vStr_string, vPtr_pointer, vSl_slice, vMap_map, vFun_func, vAgg_agg, vTup_tuple, vIfc_nil, vIfc_iface, lC_cons, lN_nil, aP_some, shO_none, shO_some, Option.isNone_none, Option.isNone_some, Bool.not_true, Bool.not_false]
    refine wd_at O X rfl rfl hlt ?_
    refine wd_at O Y rfl rfl (by omega) ?_
    refine bC_iff (fun e => ?_) (fun e => ?_)
    · have e' : x[k] ≠ y[k] := by simpa [bEq_false] using e
      have : decide (x = y) = false := by
        rw [decide_eq_false_iff_not]
        intro e2; subst e2; exact e' rfl
      rw [← this]; exact hq
    · rw [wrapS (by omega)]
      have e' : x[k] = y[k] := by simpa [bEq_iff] using e
      exact ih (k + 1) (by omega) (by omega) (by rw [List.take_succ_eq_append_getElem hlt, List.take_succ_eq_append_getElem (by omega), he, e'])
theorem eq_big {a b : Option Addr} {x y : List Str} {c d : Nat} (O : Own h μ ρ) (X : Vw ρ [] a (strs x)) (Y : Vw ρ [] b (strs y)) (hx : x.length ≤ 140737488355328) (hq : Q (.bool (decide (x = y))) h) :
    EvQ P f_slices_Equal_sl_string_string [.slice a x.length c, .slice b y.length d] h Q := by
  refine r_slices_Equal_sl_string_string ?_
  refine bC_iff (fun e => ?_) (fun e => ?_)
  · have : x.length ≠ y.length := by simp at e; omega
    have e2 : decide (x = y) = false := by
      rw [decide_eq_false_iff_not]
      intro e2; subst e2; exact this rfl
    rw [← e2]; exact hq
  · have hl : x.length = y.length := by simp at e; omega
    exact eq_big_loop O X Y hl hx hq x.length 0 (by omega) (by omega) rfl
end Go.Proofs.YtgdkekdedgkglaaDoor
end

section
/- Two lists of statements: the same? -/
namespace Go.Proofs.YtgdkekdedgkglaaDoor
open Go.Abs Go.Abs.Fo
set_option maxRecDepth 100000
attribute [local irreducible] unitAt EvQ
variable {h : AW} {μ : Paint} {ρ : Store} {Q : Value → AW → Prop}

theorem same_fn1 (O : Own h μ ρ) {op op' n n' : Int} {args args' : List Str} {aa aa' ba ba' : Option Addr} {ac ac' bc bc' : Nat} {body body' : F} (va : Vw ρ [] aa (strs args)) (va' : Vw ρ [] aa' (strs args')) (hl : args.length ≤ 140737488355328)
    (ih : ∀ {h : AW} {μ : Paint} {ρ' : Store} {Q : Value → AW → Prop}, Own h μ ρ' → Fra [] ρ ρ' → RdQ Q ρ' (.bool (F.eqB body body')) → EvQ P f_action_Same [.slice ba body.len bc, .slice ba' body'.len bc'] h Q)
    (hq : RdQ Q ρ (.bool (decide (op = op') && decide (n = n') && decide (args = args') && F.eqB body body'))) :
    EvQ P f_action_Same_fn1 [.agg ⟨[.int .i64 op, .slice aa args.length ac, .int .i64 n, .slice ba body.len bc]⟩, .agg ⟨[.int .i64 op', .slice aa' args'.length ac', .int .i64 n', .slice ba' body'.len bc']⟩] h Q := by
  refine r_action_Same_fn1 ?_
  obtain ⟨μ1, ρ1, c1, O1, W1, hc1⟩ := w_new O p00 [.int .i64 op, .slice aa args.length ac, .int .i64 n, .slice ba body.len bc]
  obtain ⟨μ2, ρ2, c2, O2, W2, hc2⟩ := w_new O1 W1 [.int .i64 op', .slice aa' args'.length ac', .int .i64 n', .slice ba' body'.len bc']
  have F2 : Fra [] ρ ρ2 := W2.fra0 fun c hc => by
    simp at hc; rcases hc with rfl | rfl <;> assumption
  repeat (first | refine ⟨rfl, ?_⟩ | refine ⟨trivial, ?_⟩ | simp only [oB_some, bC_true, bC_false, vInt_int, vBool_bool, vStr_string, vPtr_pointer, vSl_slice, vMap_map, vFun_func, vAgg_agg, vTup_tuple, vIfc_nil, vIfc_iface, lC_cons, lN_nil, aP_some, shO_none, shO_some, Option.isNone_none, Option.isNone_some, Bool.not_true, Bool.not_false] | refine w_rd (by assumption) (by assumption) 0 (by rfl) (by rfl) ?_ | refine w_rd (by assumption) (by assumption) 1 (by rfl) (by rfl) ?_ | refine w_wrL (by assumption) (by assumption) 0 (by rfl) (Nat.le_of_ble_eq_true (by rfl)) (by rfl) fun h ρz O W => ?_ | refine w_wrL (by assumption) (by assumption) 1 (by rfl) (Nat.le_of_ble_eq_true (by rfl)) (by rfl) fun h ρz O W => ?_ | refine w_wr (by assumption) (by assumption) 0 (by rfl) (Nat.le_of_ble_eq_true (by rfl)) (by rfl) fun h ρz O W => ?_ | refine w_wr (by assumption) (by assumption) 1 (by rfl) (Nat.le_of_ble_eq_true (by rfl)) (by rfl) fun h ρz O W => ?_)
  refine bC_iff (fun e => ?_) (fun e => ?_)
  · have e := eqI e
    subst e
    repeat (first | refine ⟨rfl, ?_⟩ | refine ⟨trivial, ?_⟩ | simp only [oB_some, bC_true, bC_false, vInt_int, vBool_bool, vStr_string, vPtr_pointer, vSl_slice, vMap_map, vFun_func, vAgg_agg, vTup_tuple, vIfc_nil, vIfc_iface, lC_cons, lN_nil, aP_some, shO_none, shO_some, Option.isNone_none, Option.isNone_some, Bool.not_true, Bool.not_false] | refine w_rd (by assumption) (by assumption) 0 (by rfl) (by rfl) ?_ | refine w_rd (by assumption) (by assumption) 1 (by rfl) (by rfl) ?_ | refine w_wrL (by assumption) (by assumption) 0 (by rfl) (Nat.le_of_ble_eq_true (by rfl)) (by rfl) fun h ρz O W => ?_ | refine w_wrL (by assumption) (by assumption) 1 (by rfl) (Nat.le_of_ble_eq_true (by rfl)) (by rfl) fun h ρz O W => ?_ | refine w_wr (by assumption) (by assumption) 0 (by rfl) (Nat.le_of_ble_eq_true (by rfl)) (by rfl) fun h ρz O W => ?_ | refine w_wr (by assumption) (by assumption) 1 (by rfl) (Nat.le_of_ble_eq_true (by rfl)) (by rfl) fun h ρz O W => ?_)
    refine bC_iff (fun e => ?_) (fun e => ?_)
    · have e := eqI e
      subst e
      repeat (first | refine ⟨rfl, ?_⟩ | refine ⟨trivial, ?_⟩ | simp only [oB_some, bC_true, bC_false, vInt_int, vBool_bool, vStr_string, vPtr_pointer, vSl_slice, vMap_map, vFun_func, vAgg_agg, vTup_tuple, vIfc_nil, vIfc_iface, lC_cons, lN_nil, aP_some, shO_none, shO_some, Option.isNone_none, Option.isNone_some, Bool.not_true, Bool.not_false] | refine w_rd (by assumption) (by assumption) 0 (by rfl) (by rfl) ?_ | refine w_rd (by assumption) (by assumption) 1 (by rfl) (by rfl) ?_ | refine w_wrL (by assumption) (by assumption) 0 (by rfl) (Nat.le_of_ble_eq_true (by rfl)) (by rfl) fun h ρz O W => ?_ | refine w_wrL (by assumption) (by assumption) 1 (by rfl) (Nat.le_of_ble_eq_true (by rfl)) (by rfl) fun h ρz O W => ?_ | refine w_wr (by assumption) (by assumption) 0 (by rfl) (Nat.le_of_ble_eq_true (by rfl)) (by rfl) fun h ρz O W => ?_ | refine w_wr (by assumption) (by assumption) 1 (by rfl) (Nat.le_of_ble_eq_true (by rfl)) (by rfl) fun h ρz O W => ?_)
      refine eq_big O2 (va.keep F2) (va'.keep F2) hl ?_
      simp only [oB_some, bC_true, bC_false, vInt_int, vBool_bool, vStr_string, vPtr_pointer, vSl_slice, vMap_map, vFun_func, vAgg_agg, vTup_tuple, vIfc_nil, vIfc_iface, lC_cons, lN_nil, aP_some, shO_none, shO_some, Option.isNone_none, Option.isNone_some, Bool.not_true, Bool.not_false]
      refine bC_iff (fun e => ?_) (fun e => ?_)
      · have e := of_decide_eq_true e
        subst e
        repeat (first | refine ⟨rfl, ?_⟩ | refine ⟨trivial, ?_⟩ | simp only [oB_some, bC_true, bC_false, vInt_int, vBool_bool, vStr_string, vPtr_pointer, vSl_slice, vMap_map, vFun_func, vAgg_agg, vTup_tuple, vIfc_nil, vIfc_iface, lC_cons, lN_nil, aP_some, shO_none, shO_some, Option.isNone_none, Option.isNone_some, Bool.not_true, Bool.not_false] | refine w_rd (by assumption) (by assumption) 0 (by rfl) (by rfl) ?_ | refine w_rd (by assumption) (by assumption) 1 (by rfl) (by rfl) ?_ | refine w_wrL (by assumption) (by assumption) 0 (by rfl) (Nat.le_of_ble_eq_true (by rfl)) (by rfl) fun h ρz O W => ?_ | refine w_wrL (by assumption) (by assumption) 1 (by rfl) (Nat.le_of_ble_eq_true (by rfl)) (by rfl) fun h ρz O W => ?_ | refine w_wr (by assumption) (by assumption) 0 (by rfl) (Nat.le_of_ble_eq_true (by rfl)) (by rfl) fun h ρz O W => ?_ | refine w_wr (by assumption) (by assumption) 1 (by rfl) (Nat.le_of_ble_eq_true (by rfl)) (by rfl) fun h ρz O W => ?_)
        refine ih O2 F2 fun h3 μ3 ρ3 O3 F3 => ?_
        simp only [oB_some, bC_true, bC_false, vInt_int, vBool_bool, vStr_string, vPtr_pointer, vSl_slice, vMap_map, vFun_func, vAgg_agg, vTup_tuple, vIfc_nil, vIfc_iface, lC_cons, lN_nil, aP_some, shO_none, shO_some, Option.isNone_none, Option.isNone_some, Bool.not_true, Bool.not_false]
        have := hq _ _ _ O3 (F2.trans F3)
        simpa using this
      · have e := of_decide_eq_false e
        have := hq _ _ _ O2 F2
        simpa [e] using this
    · have e := neI e
      have := hq _ _ _ O2 F2
      simpa [e] using this
  · have e := neI e
    have := hq _ _ _ O2 F2
    simpa [e] using this
theorem same_loop : ∀ (rest : F) {h : AW} {μ : Paint} {ρ : Store} {Q : Value → AW → Prop}, Own h μ ρ → ∀ {pre pre' rest' : F} {a a' : Option Addr} {c c' : List Value} {cap cap' : Nat}, Vw ρ [] a c → Lies (Vw ρ []) (pre.app rest) c → Vw ρ [] a' c' → Lies (Vw ρ []) (pre'.app rest') c' →
    pre.len = pre'.len → rest.len = rest'.len → (pre.app rest).len ≤ 140737488355328 → Fits rest → RdQ Q ρ (.bool (F.eqB rest rest')) →
    unitAt P f_slices_EqualFunc_sl_api_Stmt_sl_api_Stmt_api_Stmt_api_Stmt 4 [1, 2, 15, 16, 17] [.slice a' (pre'.app rest').len cap', .func (.func f_action_Same_fn1) ⟨[]⟩ ⟨[]⟩, .slice a (pre.app rest).len cap, .int .i64 ((pre.app rest).len : Int), .int .i64 (pre.len : Int)] h Q
  | .nil, h, μ, ρ, Q, O, pre, pre', .nil, a, a', c, c', cap, cap', X, L, X', L', hp, hr, hl, hf, hq => by
    refine r_slices_EqualFunc_sl_api_Stmt_sl_api_Stmt_api_Stmt_api_Stmt_4 ?_
    rw [F.app_nil, geI (Nat.le_refl _)]
    simp only [oB_some, bC_true, bC_false, vInt_int, vBool_bool, vStr_string, vPtr_pointer, vSl_slice, vMap_map, vFun_func, vAgg_agg, vTup_tuple, vIfc_nil, vIfc_iface, lC_cons, lN_nil, aP_some, shO_none, shO_some, Option.isNone_none, Option.isNone_some, Bool.not_true, Bool.not_false]
    exact hq.now O
  | .nil, h, μ, ρ, Q, O, pre, pre', .cons _ _ _ _ _, a, a', c, c', cap, cap', X, L, X', L', hp, hr, hl, hf, hq => by
    simp [F.len] at hr
  | .cons _ _ _ _ _, h, μ, ρ, Q, O, pre, pre', .nil, a, a', c, c', cap, cap', X, L, X', L', hp, hr, hl, hf, hq => by
    simp [F.len] at hr
  | .cons op args kk body rest, h, μ, ρ, Q, O, pre, pre', .cons op' args' kk' body' rest', a, a', c, c', cap, cap', X, L, X', L', hp, hr, hl, hf, hq => by
    obtain ⟨f1, f2, f3, f4, f5⟩ := hf
    simp only [F.len, Nat.add_right_cancel_iff] at hr
    have hlt : pre.len < (pre.app (.cons op args kk body rest)).len := app_lt
    refine r_slices_EqualFunc_sl_api_Stmt_sl_api_Stmt_api_Stmt_api_Stmt_4 ?_
    rw [ltI hlt]
    simp only [oB_some, bC_true, bC_false, vInt_int, vBool_bool, vStr_string, vPtr_pointer, vSl_slice, vMap_map, vFun_func, vAgg_agg, vTup_tuple, vIfc_nil, vIfc_iface, lC_cons, lN_nil, aP_some, shO_none, shO_some, Option.isNone_none, Option.isNone_some, Bool.not_true, Bool.not_false]
    refine st_copy O X L rfl rfl fun h1 μ1 ρ1 c1 aa ac ba bc O1 W1 hc1 F1 va la => ?_
    refine st_copy O1 (X'.keep F1) (L'.mono fun _ _ x => x.keep F1) (by rw [hp]) rfl fun h2 μ2 ρ2 c2 aa' ac' ba' bc' O2 W2 hc2 F2 va' la' => ?_
    have W := W1.adopt W2 hc2
    repeat (first | refine ⟨rfl, ?_⟩ | refine ⟨trivial, ?_⟩ | simp only [oB_some, bC_true, bC_false, vInt_int, vBool_bool, vStr_string, vPtr_pointer, vSl_slice, vMap_map, vFun_func, vAgg_agg, vTup_tuple, vIfc_nil, vIfc_iface, lC_cons, lN_nil, aP_some, shO_none, shO_some, Option.isNone_none, Option.isNone_some, Bool.not_true, Bool.not_false] | refine w_rd (by assumption) (by assumption) 0 (by rfl) (by rfl) ?_ | refine w_rd (by assumption) (by assumption) 1 (by rfl) (by rfl) ?_ | refine w_wrL (by assumption) (by assumption) 0 (by rfl) (Nat.le_of_ble_eq_true (by rfl)) (by rfl) fun h ρz O W => ?_ | refine w_wrL (by assumption) (by assumption) 1 (by rfl) (Nat.le_of_ble_eq_true (by rfl)) (by rfl) fun h ρz O W => ?_ | refine w_wr (by assumption) (by assumption) 0 (by rfl) (Nat.le_of_ble_eq_true (by rfl)) (by rfl) fun h ρz O W => ?_ | refine w_wr (by assumption) (by assumption) 1 (by rfl) (Nat.le_of_ble_eq_true (by rfl)) (by rfl) fun h ρz O W => ?_)
    have F12 := F1.trans F2
    refine same_fn1 O2 (va.keep F2) va' f1 (body := body) (body' := body') (fun {h3} {μ3} {ρ3} {Q3} O3 F3 hq3 => ?_) fun h3 μ3 ρ3 O3 F3 => ?_
    · refine r_action_Same (r_slices_EqualFunc_sl_api_Stmt_sl_api_Stmt_api_Stmt_api_Stmt ?_)
      refine bC_iff (fun e => ?_) (fun e => ?_)
      · have e : body.len ≠ body'.len := by simp at e; omega
        rw [F.eqB_len e] at hq3
        exact hq3.now O3
      · have e : body.len = body'.len := by simp at e; omega
        obtain ⟨d, v1, l1⟩ := (la.keep F2).keep F3
        obtain ⟨d', v1', l1'⟩ := la'.keep F3
        refine same_loop body (pre := .nil) (pre' := .nil) O3 v1 l1 v1' l1' rfl e f3 f4 fun h4 μ4 ρ4 O4 F4 => ?_
        simp only [oB_some, bC_true, bC_false, vInt_int, vBool_bool, vStr_string, vPtr_pointer, vSl_slice, vMap_map, vFun_func, vAgg_agg, vTup_tuple, vIfc_nil, vIfc_iface, lC_cons, lN_nil, aP_some, shO_none, shO_some, Option.isNone_none, Option.isNone_some, Bool.not_true, Bool.not_false]
        exact hq3 _ _ _ O4 F4
    · simp only [oB_some, bC_true, bC_false, vInt_int, vBool_bool, vStr_string, vPtr_pointer, vSl_slice, vMap_map, vFun_func, vAgg_agg, vTup_tuple, vIfc_nil, vIfc_iface, lC_cons, lN_nil, aP_some, shO_none, shO_some, Option.isNone_none, Option.isNone_some, Bool.not_true, Bool.not_false]
      refine bC_iff (fun e => ?_) (fun e => ?_)
      · have := hq _ _ _ O3 (F12.trans F3)
        have e : (decide (op = op') && decide (kk = kk') && decide (args = args') && F.eqB body body') = false := nb e
        simp only [F.eqB, e, Bool.false_and] at this
        exact this
      · have e : (decide (op = op') && decide (kk = kk') && decide (args = args') && F.eqB body body') = true := nb' e
        rw [wrapS (by omega)]
        have F13 := F12.trans F3
        have e3 : ∀ g : F, (pre.snoc op args kk body).app g = pre.app (.cons op args kk body g) := fun g => F.snoc_app pre op args kk body g
        have e4 : (pre.snoc op args kk body).len = pre.len + 1 := F.snoc_len pre op args kk body
        have e5 : ∀ g : F, (pre'.snoc op' args' kk' body').app g = pre'.app (.cons op' args' kk' body' g) := fun g => F.snoc_app pre' op' args' kk' body' g
        have e6 : (pre'.snoc op' args' kk' body').len = pre'.len + 1 := F.snoc_len pre' op' args' kk' body'
        have := same_loop rest (Q := Q) O3 (pre := pre.snoc op args kk body) (pre' := pre'.snoc op' args' kk' body') (rest' := rest') (cap := cap) (cap' := cap') (X.keep F13) (by rw [e3]; exact L.mono fun _ _ x => x.keep F13) (X'.keep F13) (by rw [e5]; exact L'.mono fun _ _ x => x.keep F13)
          (by rw [e4, e6, hp]) hr (by rw [e3]; exact hl) f5 (by
            have := hq.keep F13
            simp only [F.eqB, e, Bool.true_and] at this
            exact this)
        rw [e3, e4, e5] at this
        exact this
theorem same_ok (O : Own h μ ρ) {f g : F} {a b : Option Addr} {ca cb : Nat} (X : Ly ρ f a) (Y : Ly ρ g b) (hf : Fits f) (hl : f.len ≤ 140737488355328) (hq : RdQ Q ρ (.bool (F.eqB f g))) : EvQ P f_action_Same [.slice a f.len ca, .slice b g.len cb] h Q := by
  refine r_action_Same (r_slices_EqualFunc_sl_api_Stmt_sl_api_Stmt_api_Stmt_api_Stmt ?_)
  refine bC_iff (fun e => ?_) (fun e => ?_)
  · have e : f.len ≠ g.len := by simp at e; omega
    rw [F.eqB_len e] at hq
    exact hq.now O
  · have e : f.len = g.len := by simp at e; omega
    obtain ⟨d, v1, l1⟩ := X
    obtain ⟨d', v1', l1'⟩ := Y
    refine same_loop f (pre := .nil) (pre' := .nil) O v1 l1 v1' l1' rfl e hl hf fun h4 μ4 ρ4 O4 F4 => ?_
    simp only [oB_some, bC_true, bC_false, vInt_int, vBool_bool, vStr_string, vPtr_pointer, vSl_slice, vMap_map, vFun_func, vAgg_agg, vTup_tuple, vIfc_nil, vIfc_iface, lC_cons, lN_nil, aP_some, shO_none, shO_some, Option.isNone_none, Option.isNone_some, Bool.not_true, Bool.not_false]
    exact hq _ _ _ O4 F4
theorem rsame_words (O : Own h μ ρ) {ρ0 : Store} {c1 c2 p1 p2 : Nat} {l1 l2 : List Value} {aa aa' : Option Addr} {ac ac' : Nat} {args args' : List Str} (W : Pcs ρ0 ρ [c2, c1] [.var p2 l2, .var p1 l1]) (g1 : l1[1]? = some (.slice aa args.length ac)) (g2 : l2[1]? = some (.slice aa' args'.length ac'))
    (va : Vw ρ [] aa (strs args)) (va' : Vw ρ [] aa' (strs args')) (hlen : args.length = args'.length) (hl : args.length ≤ 140737488355328) {a b : Option Addr} {na ca mb cb i : Nat} (hi : i ≤ 140737488355328)
    (hf : decide (args = args') = false → Q (.bool false) h) (ht : args = args' → unitAt P f_brickyardref13_Same 4 [0, 1, 5] [.slice a na ca, .slice b mb cb, .int .i64 ((i + 1 : Nat) : Int)] h Q) :
    ∀ (d k : Nat), args.length - k = d → k ≤ args.length → args.take k = args'.take k →
      unitAt P f_brickyardref13_Same 10 [0, 1, 5, 6, 7, 8] [.slice a na ca, .slice b mb cb, .int .i64 (i : Int), .pointer (some ⟨p1, 0, none⟩), .pointer (some ⟨p2, 0, none⟩), .int .i64 (k : Int)] h Q := by
  intro d
  induction d with
  | zero =>
    intro k hd hk he
    refine r_brickyardref13_Same_10 ?_
    refine w_rd O W 1 rfl g1 ?_
    simp only [oB_some, bC_true, bC_false, vInt_int, vBool_bool, vStr_string, vPtr_pointer, vSl_slice, vMap_map, vFun_func, vAgg_agg, vTup_tuple, vIfc_nil, vIfc_iface, lC_cons, lN_nil, aP_some, shO_none, shO_some, Option.isNone_none, Option.isNone_some, Bool.not_true, Bool.not_false]
    rw [geI (by omega)]
    simp only [oB_some, bC_true, bC_false, vInt_int, vBool_bool, vStr_string, vPtr_pointer, vSl_slice, vMap_map, vFun_func, vAgg_agg, vTup_tuple, vIfc_nil, vIfc_iface, lC_cons, lN_nil, aP_some, shO_none, shO_some, Option.isNone_none, Option.isNone_some, Bool.not_true, Bool.not_false]
    rw [wrapS (by omega)]
    have : k = args.length := by omega
    subst this
    rw [List.take_length, hlen, List.take_length] at he
    exact ht he
  | succ d ih =>
    intro k hd hk he
    have hlt : k < args.length := by omega
    refine r_brickyardref13_Same_10 ?_
    refine w_rd O W 1 rfl g1 ?_
    simp only [oB_some, bC_true, bC_false, vInt_int, vBool_bool, vStr_string, vPtr_pointer, vSl_slice, vMap_map, vFun_func, vAgg_agg, vTup_tuple, vIfc_nil, vIfc_iface, lC_cons, lN_nil, aP_some, shO_none, shO_some, Option.isNone_none, Option.isNone_some, Bool.not_true, Bool.not_false]
    rw [ltI hlt]
    simp only [oB_some, bC_true, bC_false, vInt_int, vBool_bool, vStr_string, vPtr_pointer, vSl_slice, vMap_map, vFun_func, vAgg_agg, vTup_tuple, vIfc_nil, vIfc_iface, lC_cons, lN_nil, aP_some, shO_none, shO_some, Option.isNone_none, Option.isNone_some, Bool.not_true, Bool.not_false]
    refine w_rd O W 1 rfl g1 ?_
    simp only [oB_some, bC_true, bC_false, vInt_int, vBool_bool, vStr_string, vPtr_pointer, vSl_slice, vMap_map, vFun_func, vAgg_agg, vTup_tuple, vIfc_nil, vIfc_iface, lC_cons, lN_nil, aP_some, shO_none, shO_some, Option.isNone_none, Option.isNone_some, Bool.not_true, Bool.not_false]
    refine wd_at O va rfl rfl hlt ?_
    refine w_rd O W 0 rfl g2 ?_
    simp only [oB_some, bC_true, bC_false, vInt_int, vBool_bool, vStr_string, vPtr_pointer, vSl_slice, vMap_map, vFun_func, vAgg_agg, vTup_tuple, vIfc_nil, vIfc_iface, lC_cons, lN_nil, aP_some, shO_none, shO_some, Option.isNone_none, Option.isNone_some, Bool.not_true, Bool.not_false]
    refine wd_at O va' rfl rfl (by omega) ?_
    refine bC_iff (fun e => ?_) (fun e => ?_)
    · have e' : args[k] ≠ args'[k] := bEq_false.1 (nb e)
      refine hf (decide_eq_false fun e2 => ?_)
      subst e2; exact e' rfl
    · have e' : args[k] = args'[k] := bEq_iff.1 (nb' e)
      rw [wrapS (by omega)]
      exact ih (k + 1) (by omega) (by omega) (by rw [List.take_succ_eq_append_getElem hlt, List.take_succ_eq_append_getElem (by omega), he, e'])
theorem rsame_of (O : Own h μ ρ) {f g : F} {a b : Option Addr} {ca cb : Nat} (X : Ly ρ f a) (Y : Ly ρ g b)
    (loop : ∀ {c c' : List Value}, Vw ρ [] a c → Lies (Vw ρ []) f c → Vw ρ [] b c' → Lies (Vw ρ []) g c' → f.len = g.len → RdQ Q ρ (.bool (F.eqB f g)) → unitAt P f_brickyardref13_Same 4 [0, 1, 5] [.slice a f.len ca, .slice b g.len cb, .int .i64 0] h Q)
    (hq : RdQ Q ρ (.bool (F.eqB f g))) : EvQ P f_brickyardref13_Same [.slice a f.len ca, .slice b g.len cb] h Q := by
  refine r_brickyardref13_Same ?_
  refine bC_iff (fun e => ?_) (fun e => ?_)
  · have e : f.len ≠ g.len := by simp at e; omega
    rw [F.eqB_len e] at hq
    exact hq.now O
  · have e : f.len = g.len := by simp at e; omega
    obtain ⟨d, v1, l1⟩ := X
    obtain ⟨d', v1', l1'⟩ := Y
    exact loop v1 l1 v1' l1' e hq
theorem rsame_loop : ∀ (rest : F) {h : AW} {μ : Paint} {ρ : Store} {Q : Value → AW → Prop}, Own h μ ρ → ∀ {pre pre' rest' : F} {a a' : Option Addr} {c c' : List Value} {cap cap' : Nat}, Vw ρ [] a c → Lies (Vw ρ []) (pre.app rest) c → Vw ρ [] a' c' → Lies (Vw ρ []) (pre'.app rest') c' →
    pre.len = pre'.len → rest.len = rest'.len → (pre.app rest).len ≤ 140737488355328 → Fits rest → RdQ Q ρ (.bool (F.eqB rest rest')) →
    unitAt P f_brickyardref13_Same 4 [0, 1, 5] [.slice a (pre.app rest).len cap, .slice a' (pre'.app rest').len cap', .int .i64 (pre.len : Int)] h Q
  | .nil, h, μ, ρ, Q, O, pre, pre', .nil, a, a', c, c', cap, cap', X, L, X', L', hp, hr, hl, hf, hq => by
    refine r_brickyardref13_Same_4 ?_
    rw [F.app_nil, geI (Nat.le_refl _)]
    simp only [oB_some, bC_true, bC_false, vInt_int, vBool_bool, vStr_string, vPtr_pointer, vSl_slice, vMap_map, vFun_func, vAgg_agg, vTup_tuple, vIfc_nil, vIfc_iface, lC_cons, lN_nil, aP_some, shO_none, shO_some, Option.isNone_none, Option.isNone_some, Bool.not_true, Bool.not_false]
    exact hq.now O
  | .nil, h, μ, ρ, Q, O, pre, pre', .cons _ _ _ _ _, a, a', c, c', cap, cap', X, L, X', L', hp, hr, hl, hf, hq => by
    simp [F.len] at hr
  | .cons _ _ _ _ _, h, μ, ρ, Q, O, pre, pre', .nil, a, a', c, c', cap, cap', X, L, X', L', hp, hr, hl, hf, hq => by
    simp [F.len] at hr
  | .cons op args kk body rest, h, μ, ρb, Q, Ob, pre, pre', .cons op' args' kk' body' rest', a, a', c, c', cap, cap', X, L, X', L', hp, hr, hl, hf, hq => by
    obtain ⟨f1, f2, f3, f4, f5⟩ := hf
    simp only [F.len, Nat.add_right_cancel_iff] at hr
    have hlt : pre.len < (pre.app (.cons op args kk body rest)).len := app_lt
    refine r_brickyardref13_Same_4 ?_
    rw [ltI hlt]
    simp only [oB_some, bC_true, bC_false, vInt_int, vBool_bool, vStr_string, vPtr_pointer, vSl_slice, vMap_map, vFun_func, vAgg_agg, vTup_tuple, vIfc_nil, vIfc_iface, lC_cons, lN_nil, aP_some, shO_none, shO_some, Option.isNone_none, Option.isNone_some, Bool.not_true, Bool.not_false]
    obtain ⟨μ1, ρ1, c1, O1, W1, hc1⟩ := w_new Ob p00 [.int .i64 0, .slice none 0 0, .int .i64 0, .slice none 0 0]
    obtain ⟨μ2, ρ2, c2, O2, W2, hc2⟩ := w_new O1 W1 [.int .i64 0, .slice none 0 0, .int .i64 0, .slice none 0 0]
    have hcs : ∀ c, c ∈ [c2, c1] → ρb c = none := fun c hc => by
      simp at hc; rcases hc with rfl | rfl <;> assumption
    have F1 : Fra [] ρb ρ1 := W1.fra0 fun c hc => by
      simp at hc; rw [hc]; exact hc1
    have F2 : Fra [] ρb ρ2 := W2.fra0 hcs
    refine st_open Ob X L rfl rfl fun i off aa ac ba bc va la SA => ?_
    have S0 := SA Ob Fra.refl
    have S1 := SA O1 F1
    have S2 := SA O2 F2
    repeat (first | refine ⟨rfl, ?_⟩ | refine ⟨trivial, ?_⟩ | simp only [oB_some, bC_true, bC_false, vInt_int, vBool_bool, vStr_string, vPtr_pointer, vSl_slice, vMap_map, vFun_func, vAgg_agg, vTup_tuple, vIfc_nil, vIfc_iface, lC_cons, lN_nil, aP_some, shO_none, shO_some, Option.isNone_none, Option.isNone_some, Bool.not_true, Bool.not_false] | refine w_rd (by assumption) (by assumption) 0 (by rfl) (by rfl) ?_ | refine w_rd (by assumption) (by assumption) 1 (by rfl) (by rfl) ?_ | refine w_wrL (by assumption) (by assumption) 0 (by rfl) (Nat.le_of_ble_eq_true (by rfl)) (by rfl) fun h ρz O W => ?_ | refine w_wrL (by assumption) (by assumption) 1 (by rfl) (Nat.le_of_ble_eq_true (by rfl)) (by rfl) fun h ρz O W => ?_ | refine w_wr (by assumption) (by assumption) 0 (by rfl) (Nat.le_of_ble_eq_true (by rfl)) (by rfl) fun h ρz O W => ?_ | refine w_wr (by assumption) (by assumption) 1 (by rfl) (Nat.le_of_ble_eq_true (by rfl)) (by rfl) fun h ρz O W => ?_ | refine oB_bind (StAt.r0 (by assumption)) ?_ | refine oB_bind (StAt.r1 (by assumption)) ?_ | refine oB_bind (StAt.r2 (by assumption)) ?_ | refine oB_bind (StAt.r3 (by assumption)) ?_)
    refine st_open Ob X' L' (by rw [hp]) rfl fun i2 off2 aa' ac' ba' bc' va' la' SB => ?_
    have T0 := SB Ob Fra.refl
    have T1 := SB O1 F1
    have T2 := SB O2 F2
    repeat (first | refine ⟨rfl, ?_⟩ | refine ⟨trivial, ?_⟩ | simp only [oB_some, bC_true, bC_false, vInt_int, vBool_bool, vStr_string, vPtr_pointer, vSl_slice, vMap_map, vFun_func, vAgg_agg, vTup_tuple, vIfc_nil, vIfc_iface, lC_cons, lN_nil, aP_some, shO_none, shO_some, Option.isNone_none, Option.isNone_some, Bool.not_true, Bool.not_false] | refine w_rd (by assumption) (by assumption) 0 (by rfl) (by rfl) ?_ | refine w_rd (by assumption) (by assumption) 1 (by rfl) (by rfl) ?_ | refine w_wrL (by assumption) (by assumption) 0 (by rfl) (Nat.le_of_ble_eq_true (by rfl)) (by rfl) fun h ρz O W => ?_ | refine w_wrL (by assumption) (by assumption) 1 (by rfl) (Nat.le_of_ble_eq_true (by rfl)) (by rfl) fun h ρz O W => ?_ | refine w_wr (by assumption) (by assumption) 0 (by rfl) (Nat.le_of_ble_eq_true (by rfl)) (by rfl) fun h ρz O W => ?_ | refine w_wr (by assumption) (by assumption) 1 (by rfl) (Nat.le_of_ble_eq_true (by rfl)) (by rfl) fun h ρz O W => ?_ | refine oB_bind (StAt.r0 (by assumption)) ?_ | refine oB_bind (StAt.r1 (by assumption)) ?_ | refine oB_bind (StAt.r2 (by assumption)) ?_ | refine oB_bind (StAt.r3 (by assumption)) ?_ | refine oB_bind (StAt.r0 (SB (by assumption) (Pcs.fra0 (by assumption) hcs))) ?_ | refine oB_bind (StAt.r1 (SB (by assumption) (Pcs.fra0 (by assumption) hcs))) ?_ | refine oB_bind (StAt.r2 (SB (by assumption) (Pcs.fra0 (by assumption) hcs))) ?_ | refine oB_bind (StAt.r3 (SB (by assumption) (Pcs.fra0 (by assumption) hcs))) ?_)
    have F3 := W.fra0 hcs
    have no : ∀ {h' : AW} {μ' : Paint} {ρ' : Store}, Own h' μ' ρ' → Fra [] ρb ρ' → F.eqB (.cons op args kk body rest) (.cons op' args' kk' body' rest') = false → Q (.bool false) h' := fun O' F' e => by
      have := hq _ _ _ O' F'
      rw [e] at this; exact this
    refine bC_iff (fun e => ?_) (fun e => ?_)
    · have e : op ≠ op' := by simpa using e
      exact no O F3 (by simp [F.eqB, e])
    have e : op = op' := by simpa using e
    subst e
    repeat (first | refine ⟨rfl, ?_⟩ | refine ⟨trivial, ?_⟩ | simp only [oB_some, bC_true, bC_false, vInt_int, vBool_bool, vStr_string, vPtr_pointer, vSl_slice, vMap_map, vFun_func, vAgg_agg, vTup_tuple, vIfc_nil, vIfc_iface, lC_cons, lN_nil, aP_some, shO_none, shO_some, Option.isNone_none, Option.isNone_some, Bool.not_true, Bool.not_false] | refine w_rd (by assumption) (by assumption) 0 (by rfl) (by rfl) ?_ | refine w_rd (by assumption) (by assumption) 1 (by rfl) (by rfl) ?_ | refine w_wrL (by assumption) (by assumption) 0 (by rfl) (Nat.le_of_ble_eq_true (by rfl)) (by rfl) fun h ρz O W => ?_ | refine w_wrL (by assumption) (by assumption) 1 (by rfl) (Nat.le_of_ble_eq_true (by rfl)) (by rfl) fun h ρz O W => ?_ | refine w_wr (by assumption) (by assumption) 0 (by rfl) (Nat.le_of_ble_eq_true (by rfl)) (by rfl) fun h ρz O W => ?_ | refine w_wr (by assumption) (by assumption) 1 (by rfl) (Nat.le_of_ble_eq_true (by rfl)) (by rfl) fun h ρz O W => ?_)
    refine bC_iff (fun e => ?_) (fun e => ?_)
    · have e : kk ≠ kk' := by simpa using e
      exact no O F3 (by simp [F.eqB, e])
    have e : kk = kk' := by simpa using e
    subst e
    repeat (first | refine ⟨rfl, ?_⟩ | refine ⟨trivial, ?_⟩ | simp only [oB_some, bC_true, bC_false, vInt_int, vBool_bool, vStr_string, vPtr_pointer, vSl_slice, vMap_map, vFun_func, vAgg_agg, vTup_tuple, vIfc_nil, vIfc_iface, lC_cons, lN_nil, aP_some, shO_none, shO_some, Option.isNone_none, Option.isNone_some, Bool.not_true, Bool.not_false] | refine w_rd (by assumption) (by assumption) 0 (by rfl) (by rfl) ?_ | refine w_rd (by assumption) (by assumption) 1 (by rfl) (by rfl) ?_ | refine w_wrL (by assumption) (by assumption) 0 (by rfl) (Nat.le_of_ble_eq_true (by rfl)) (by rfl) fun h ρz O W => ?_ | refine w_wrL (by assumption) (by assumption) 1 (by rfl) (Nat.le_of_ble_eq_true (by rfl)) (by rfl) fun h ρz O W => ?_ | refine w_wr (by assumption) (by assumption) 0 (by rfl) (Nat.le_of_ble_eq_true (by rfl)) (by rfl) fun h ρz O W => ?_ | refine w_wr (by assumption) (by assumption) 1 (by rfl) (Nat.le_of_ble_eq_true (by rfl)) (by rfl) fun h ρz O W => ?_)
    refine bC_iff (fun e => ?_) (fun e => ?_)
    · have e : args.length ≠ args'.length := by simp at e; omega
      have e2 : args ≠ args' := fun x => e (by rw [x])
      exact no O F3 (by simp [F.eqB, e2])
    have hlen : args.length = args'.length := by simp at e; omega
    repeat (first | refine ⟨rfl, ?_⟩ | refine ⟨trivial, ?_⟩ | simp only [oB_some, bC_true, bC_false, vInt_int, vBool_bool, vStr_string, vPtr_pointer, vSl_slice, vMap_map, vFun_func, vAgg_agg, vTup_tuple, vIfc_nil, vIfc_iface, lC_cons, lN_nil, aP_some, shO_none, shO_some, Option.isNone_none, Option.isNone_some, Bool.not_true, Bool.not_false] | refine w_rd (by assumption) (by assumption) 0 (by rfl) (by rfl) ?_ | refine w_rd (by assumption) (by assumption) 1 (by rfl) (by rfl) ?_ | refine w_wrL (by assumption) (by assumption) 0 (by rfl) (Nat.le_of_ble_eq_true (by rfl)) (by rfl) fun h ρz O W => ?_ | refine w_wrL (by assumption) (by assumption) 1 (by rfl) (Nat.le_of_ble_eq_true (by rfl)) (by rfl) fun h ρz O W => ?_ | refine w_wr (by assumption) (by assumption) 0 (by rfl) (Nat.le_of_ble_eq_true (by rfl)) (by rfl) fun h ρz O W => ?_ | refine w_wr (by assumption) (by assumption) 1 (by rfl) (Nat.le_of_ble_eq_true (by rfl)) (by rfl) fun h ρz O W => ?_)
    refine rsame_of O (la.keep F3) (la'.keep F3) (fun v1 l1 v2 l2 e q => rsame_loop body (pre := .nil) (pre' := .nil) O v1 l1 v2 l2 rfl e f3 f4 q) fun h4 μ4 ρ4 O4 F4 => ?_
    simp only [oB_some, bC_true, bC_false, vInt_int, vBool_bool, vStr_string, vPtr_pointer, vSl_slice, vMap_map, vFun_func, vAgg_agg, vTup_tuple, vIfc_nil, vIfc_iface, lC_cons, lN_nil, aP_some, shO_none, shO_some, Option.isNone_none, Option.isNone_some, Bool.not_true, Bool.not_false]
    refine bC_iff (fun e => ?_) (fun e => ?_)
    · have e : F.eqB body body' = false := nb e
      exact no O4 (F3.trans F4) (by simp [F.eqB, e])
    have e : F.eqB body body' = true := nb' e
    have F34 := F3.trans F4
    refine rsame_words O4 (W.keep0 F4) rfl rfl (va.keep F34) (va'.keep F34) hlen f1 (by omega) (fun e2 => no O4 F34 (by simp [F.eqB, e, of_decide_eq_false e2])) (fun e2 => ?_) _ 0 rfl (by omega) rfl
    have e3 : ∀ g : F, (pre.snoc op args kk body).app g = pre.app (.cons op args kk body g) := fun g => F.snoc_app pre op args kk body g
    have e4 : (pre.snoc op args kk body).len = pre.len + 1 := F.snoc_len pre op args kk body
    have e5 : ∀ g : F, (pre'.snoc op args' kk body').app g = pre'.app (.cons op args' kk body' g) := fun g => F.snoc_app pre' op args' kk body' g
    have e6 : (pre'.snoc op args' kk body').len = pre'.len + 1 := F.snoc_len pre' op args' kk body'
    have := rsame_loop rest (Q := Q) O4 (pre := pre.snoc op args kk body) (pre' := pre'.snoc op args' kk body') (rest' := rest') (cap := cap) (cap' := cap') (X.keep F34) (by rw [e3]; exact L.mono fun _ _ x => x.keep F34) (X'.keep F34) (by rw [e5]; exact L'.mono fun _ _ x => x.keep F34)
      (by rw [e4, e6, hp]) hr (by rw [e3]; exact hl) f5 (by
        have := hq.keep F34
        simp only [F.eqB, e, e2, decide_true, Bool.true_and] at this
        exact this)
    rw [e3, e4, e5] at this
    exact this
theorem rsame_ok (O : Own h μ ρ) {f g : F} {a b : Option Addr} {ca cb : Nat} (X : Ly ρ f a) (Y : Ly ρ g b) (hf : Fits f) (hl : f.len ≤ 140737488355328) (hq : RdQ Q ρ (.bool (F.eqB f g))) : EvQ P f_brickyardref13_Same [.slice a f.len ca, .slice b g.len cb] h Q :=
  rsame_of O X Y (fun v1 l1 v2 l2 e q => rsame_loop f (pre := .nil) (pre' := .nil) O v1 l1 v2 l2 rfl e hl hf q) hq
end Go.Proofs.YtgdkekdedgkglaaDoor
end
