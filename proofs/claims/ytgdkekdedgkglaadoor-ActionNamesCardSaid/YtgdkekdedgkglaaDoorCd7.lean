/- A deterministic heap for the model, proved sound, and walks of the program over it: part 12. No condition. -/
import Derived.Test.YtgdkekdedgkglaaDoorAb1
import Derived.Test.YtgdkekdedgkglaaDoorAb2
import Derived.Test.YtgdkekdedgkglaaDoorAb3
import Derived.Test.YtgdkekdedgkglaaDoorAb4
import Derived.Test.YtgdkekdedgkglaaDoorCd2
import Derived.Test.YtgdkekdedgkglaaDoorCd3
import Derived.Test.YtgdkekdedgkglaaDoorCd4
import Derived.Test.YtgdkekdedgkglaaDoorCd1
import Derived.Test.YtgdkekdedgkglaaDoorCd5
import Derived.Test.YtgdkekdedgkglaaDoorCd6
import Derived.Test.YtgdkekdedgkglaaDoorAb5
import Derived.Test.YtgdkekdedgkglaaDoorCards
import Derived.Test.YtgdkekdedgkglaaDoorTie
import Derived.OpenShut
set_option linter.unusedVariables false
set_option linter.unusedSimpArgs false
set_option linter.unusedSectionVars false
section
/- Rules of walks, printed by a program of ours: group ALaw. -/
namespace Go.Proofs.YtgdkekdedgkglaaDoor
open Go.Abs
set_option maxRecDepth 100000
theorem r_brickyardlaw13_ActionParses {p1 : Option Addr} {m2 : Nat} {m3 : Nat} {h : AW} {Q : Value → AW → Prop} (H : EvQ P f_brickyardlaw13_works [] h fun v4 h5 => vBool v4 fun b6 => bC (!b6) (Q (Value.bool false) h5) (EvQ
  P f_brickyardlaw13_wide [Value.slice p1 m2 m3] h5 fun v7 h8 => vBool v7 fun b9 => bC b9 (Q (Value.bool true) h8) (EvQ P f_action_Parse [Value.slice p1 m2 m3] h8 fun v10 h11 => vTup v10 fun l12 => lC l12
  fun v13 l14 => vSl v13 fun p15 m16 m17 => lC l14 fun v18 l19 => vAgg v18 fun l20 => lC l20 fun v21 l22 => vInt IntKind.i64 v21 fun n23 => lC l22 fun v24 l25 => vInt IntKind.i64
  v24 fun n26 => lN l25 (lN l19 (oB (AW.wrL (AW.addVar h11 [Value.int IntKind.i64 0, Value.int IntKind.i64 0]) (AW.next h11) 0 [Value.int IntKind.i64 n23, Value.int IntKind.i64
  n26]) fun h27 => EvQ P f_brickyardref13_Parse [Value.slice p1 m2 m3] h27 fun v28 h29 => vTup v28 fun l30 => lC l30 fun v31 l32 => vSl v31 fun p33 m34 m35 => lC l32 fun v36 l37 => vAgg v36 fun l38
  => lC l38 fun v39 l40 => vInt IntKind.i64 v39 fun n41 => lC l40 fun v42 l43 => vInt IntKind.i64 v42 fun n44 => lN l43 (lN l37 (oB (AW.wrL (AW.addVar h29 [Value.int IntKind.i64 0,
  Value.int IntKind.i64 0]) (AW.next h29) 0 [Value.int IntKind.i64 n41, Value.int IntKind.i64 n44]) fun h45 => EvQ P f_brickyardref13_Same [Value.slice p15 m16 m17, Value.slice p33 m34 m35] h45 fun
  v46 h47 => vBool v46 fun b48 => bC (!b48) (Q (Value.bool false) h47) (oB (AW.rd h47 (AW.next h11) 0) fun v49 => vInt IntKind.i64 v49 fun n50 => oB (AW.rd h47 (AW.next h11) 1) fun
  v51 => vInt IntKind.i64 v51 fun n52 => oB (AW.rd h47 (AW.next h29) 0) fun v53 => vInt IntKind.i64 v53 fun n54 => oB (AW.rd h47 (AW.next h29) 1) fun v55 => vInt IntKind.i64 v55
  fun n56 => bC (!(n50 == n54 && (n52 == n56 && true))) (Q (Value.bool false) h47) (unitAt P f_brickyardlaw13_ActionParses 10 [0, 3, 5, 6, 7] [Value.slice p1 m2 m3, Value.slice p15 m16 m17, Value.slice p33
  m34 m35, Value.pointer (some (Addr.mk (AW.next h29) 0 none)), Value.int IntKind.i64 0] h47 Q))))))))) : EvQ P f_brickyardlaw13_ActionParses [Value.slice p1 m2 m3] h Q := fn_ok (n := 400) (ann := annOf
  [(10, [0, 3, 5, 6, 7]), (13, [0, 3, 5, 6, 7, 8])]) (Eq.mp (by kernel_rfl) H)
theorem r_brickyardlaw13_ActionParses_10 {p1 : Option Addr} {m2 : Nat} {m3 : Nat} {p4 : Option Addr} {m5 : Nat} {m6 : Nat} {p7 : Option Addr} {m8 : Nat} {m9 : Nat} {m10 : Nat} {n11 : Int} {h : AW} {Q :
  Value → AW → Prop} (H : bC (decide (n11 < (↑m5 : Int))) (unitAt P f_brickyardlaw13_ActionParses 13 [0, 3, 5, 6, 7, 8] [Value.slice p1 m2 m3, Value.slice p4 m5 m6, Value.slice p7 m8 m9, Value.pointer (some
  (Addr.mk m10 0 none)), Value.int IntKind.i64 n11, Value.int IntKind.i64 0] h Q) (EvQ P f_action_Parse [Value.slice p1 m2 m3] h fun v12 h13 => vTup v12 fun l14 => lC l14 fun v15 l16 => vSl
  v15 fun p17 m18 m19 => lC l16 fun v20 l21 => vAgg v20 fun l22 => lC l22 fun v23 l24 => vInt IntKind.i64 v23 fun n25 => lC l24 fun v26 l27 => vInt IntKind.i64 v26 fun n28 => lN
  l27 (lN l21 (oB (AW.wrL (AW.addVar h13 [Value.int IntKind.i64 0, Value.int IntKind.i64 0]) (AW.next h13) 0 [Value.int IntKind.i64 n25, Value.int IntKind.i64 n28]) fun h29 => EvQ
  P f_brickyardref13_Same [Value.slice p17 m18 m19, Value.slice p7 m8 m9] h29 fun v30 h31 => vBool v30 fun b32 => bC b32 (oB (AW.rd h31 (AW.next h13) 0) fun v33 => vInt IntKind.i64 v33 fun n34 =>
  oB (AW.rd h31 (AW.next h13) 1) fun v35 => vInt IntKind.i64 v35 fun n36 => oB (AW.rd h31 m10 0) fun v37 => vInt IntKind.i64 v37 fun n38 => oB (AW.rd h31 m10 1) fun v39 => vInt
  IntKind.i64 v39 fun n40 => Q (Value.bool (n34 == n38 && (n36 == n40 && true))) h31) (Q (Value.bool false) h31))))) : unitAt P f_brickyardlaw13_ActionParses 10 [0, 3, 5, 6, 7] [Value.slice p1 m2 m3,
  Value.slice p4 m5 m6, Value.slice p7 m8 m9, Value.pointer (some (Addr.mk m10 0 none)), Value.int IntKind.i64 n11] h Q := unit_ok (n := 400) (ann := annOf [(10, [0, 3, 5, 6, 7]),
  (13, [0, 3, 5, 6, 7, 8])]) (Eq.mp (by kernel_rfl) H)
theorem r_brickyardlaw13_ActionParses_13 {p1 : Option Addr} {m2 : Nat} {m3 : Nat} {p4 : Option Addr} {m5 : Nat} {m6 : Nat} {p7 : Option Addr} {m8 : Nat} {m9 : Nat} {m10 : Nat} {n11 : Int} {n12 : Int} {h :
  AW} {Q : Value → AW → Prop} (H : aP p4 fun m13 m14 => oB (natIdx n11 m5) fun m15 => oB (AW.rd h m13 (m14 + m15 * 4 + 1)) fun v16 => vSl v16 fun p17 m18 m19 => bC (decide (n12 <
  (↑m18 : Int))) (aP p4 fun m20 m21 => oB (natIdx n11 m5) fun m22 => oB (AW.rd h m20 (m21 + m22 * 4 + 1)) fun v23 => vSl v23 fun p24 m25 m26 => aP p24 fun m27 m28 => oB (natIdx n12
  m25) fun m29 => oB (AW.wr h m27 (m28 + m29 * 1) (Value.string (ByteArray.mk #[103, 111, 110, 101]))) fun h30 => unitAt P f_brickyardlaw13_ActionParses 13 [0, 3, 5, 6, 7, 8] [Value.slice p1 m2 m3,
  Value.slice p4 m5 m6, Value.slice p7 m8 m9, Value.pointer (some (Addr.mk m10 0 none)), Value.int IntKind.i64 n11, Value.int IntKind.i64 (IntKind.wrap IntKind.i64 (n12 + 1))] h30
  Q) (aP p4 fun m31 m32 => oB (natIdx n11 m5) fun m33 => oB (AW.wrL h m31 (m32 + m33 * 4) [Value.int IntKind.i64 0, Value.slice none 0 0, Value.int IntKind.i64 0, Value.slice none
  0 0]) fun h34 => unitAt P f_brickyardlaw13_ActionParses 10 [0, 3, 5, 6, 7] [Value.slice p1 m2 m3, Value.slice p4 m5 m6, Value.slice p7 m8 m9, Value.pointer (some (Addr.mk m10 0 none)), Value.int
  IntKind.i64 (IntKind.wrap IntKind.i64 (n11 + 1))] h34 Q)) : unitAt P f_brickyardlaw13_ActionParses 13 [0, 3, 5, 6, 7, 8] [Value.slice p1 m2 m3, Value.slice p4 m5 m6, Value.slice p7 m8 m9, Value.pointer
  (some (Addr.mk m10 0 none)), Value.int IntKind.i64 n11, Value.int IntKind.i64 n12] h Q := unit_ok (n := 400) (ann := annOf [(10, [0, 3, 5, 6, 7]), (13, [0, 3, 5, 6, 7, 8])])
  (Eq.mp (by kernel_rfl) H)
theorem r_brickyardlaw13_ActionNames {h : AW} {Q : Value → AW → Prop} (H : EvQ P f_brickyardlaw13_works [] h fun v1 h2 => vBool v1 fun b3 => bC (!b3) (Q (Value.bool false) h2) (unitAt P f_brickyardlaw13_ActionNames 5 [1, 2, 3] [Value.slice none 0
  0, Value.slice none 0 0, Value.int IntKind.i64 0] h2 Q)) : EvQ P f_brickyardlaw13_ActionNames [] h Q := fn_ok (n := 400) (ann := annOf [(5, [1, 2, 3]), (9, [1, 2, 4]), (13, [1, 2, 5])]) (Eq.mp (by
  kernel_rfl) H)
theorem r_brickyardlaw13_ActionNames_5 {p1 : Option Addr} {m2 : Nat} {m3 : Nat} {p4 : Option Addr} {m5 : Nat} {m6 : Nat} {n7 : Int} {h : AW} {Q : Value → AW → Prop} (H : bC (decide (n7 < 256)) (oP
  (appendB P (AW.addVar (AW.addVar h [Value.string (ByteArray.mk #[117, 112, 112, 101, 114])]) [Value.slice (some (Addr.mk (AW.next h) 0 none)) 1 1]) (Array.mk [ty_sl_sl_string, ty_sl_sl_string])
  [Value.slice p1 m2 m3, Value.slice (some (Addr.mk (AW.next (AW.addVar h [Value.string (ByteArray.mk #[117, 112, 112, 101, 114])])) 0 none)) 1 1]) fun v8 h9 => vSl v8 fun p10 m11
  m12 => unitAt P f_brickyardlaw13_ActionNames 5 [1, 2, 3] [Value.slice p10 m11 m12, Value.slice p4 m5 m6, Value.int IntKind.i64 (IntKind.wrap IntKind.i64 (n7 + 1))] h9 Q) (unitAt P f_brickyardlaw13_ActionNames 9 [1, 2, 4]
  [Value.slice p1 m2 m3, Value.slice p4 m5 m6, Value.int IntKind.i64 0] h Q)) : unitAt P f_brickyardlaw13_ActionNames 5 [1, 2, 3] [Value.slice p1 m2 m3, Value.slice p4 m5 m6, Value.int IntKind.i64 n7] h Q
  := unit_ok (n := 400) (ann := annOf [(5, [1, 2, 3]), (9, [1, 2, 4]), (13, [1, 2, 5])]) (Eq.mp (by kernel_rfl) H)
theorem r_brickyardlaw13_ActionNames_9 {p1 : Option Addr} {m2 : Nat} {m3 : Nat} {p4 : Option Addr} {m5 : Nat} {m6 : Nat} {n7 : Int} {h : AW} {Q : Value → AW → Prop} (H : bC (decide (n7 < 8)) (oP (appendB
  P (AW.addVar (AW.addVar h [Value.string (ByteArray.mk #[114, 101, 112, 101, 97, 116]), Value.string (ByteArray.mk #[49])]) [Value.slice (some (Addr.mk (AW.next h) 0 none)) 2 2])
  (Array.mk [ty_sl_sl_string, ty_sl_sl_string]) [Value.slice p4 m5 m6, Value.slice (some (Addr.mk (AW.next (AW.addVar h [Value.string (ByteArray.mk #[114, 101, 112, 101, 97, 116]), Value.string
  (ByteArray.mk #[49])])) 0 none)) 1 1]) fun v8 h9 => vSl v8 fun p10 m11 m12 => unitAt P f_brickyardlaw13_ActionNames 9 [1, 2, 4] [Value.slice p1 m2 m3, Value.slice p10 m11 m12, Value.int IntKind.i64
  (IntKind.wrap IntKind.i64 (n7 + 1))] h9 Q) (unitAt P f_brickyardlaw13_ActionNames 13 [1, 2, 5] [Value.slice p1 m2 m3, Value.slice p4 m5 m6, Value.int IntKind.i64 0] h Q)) : unitAt P f_brickyardlaw13_ActionNames 9 [1, 2, 4]
  [Value.slice p1 m2 m3, Value.slice p4 m5 m6, Value.int IntKind.i64 n7] h Q := unit_ok (n := 400) (ann := annOf [(5, [1, 2, 3]), (9, [1, 2, 4]), (13, [1, 2, 5])]) (Eq.mp (by
  kernel_rfl) H)
theorem r_brickyardlaw13_ActionNames_13 {p1 : Option Addr} {m2 : Nat} {m3 : Nat} {p4 : Option Addr} {m5 : Nat} {m6 : Nat} {n7 : Int} {h : AW} {Q : Value → AW → Prop} (H : bC (decide (n7 < 8)) (oP
  (appendB P (AW.addVar (AW.addVar h [Value.string (ByteArray.mk #[101, 110, 100])]) [Value.slice (some (Addr.mk (AW.next h) 0 none)) 1 1]) (Array.mk [ty_sl_sl_string, ty_sl_sl_string]) [Value.slice
  p4 m5 m6, Value.slice (some (Addr.mk (AW.next (AW.addVar h [Value.string (ByteArray.mk #[101, 110, 100])])) 0 none)) 1 1]) fun v8 h9 => vSl v8 fun p10 m11 m12 => unitAt P f_brickyardlaw13_ActionNames 13
  [1, 2, 5] [Value.slice p1 m2 m3, Value.slice p10 m11 m12, Value.int IntKind.i64 (IntKind.wrap IntKind.i64 (n7 + 1))] h9 Q) (EvQ P f_action_Parse [Value.slice p1 m2 m3] h fun v13 h14 =>
  vTup v13 fun l15 => lC l15 fun v16 l17 => vSl v16 fun p18 m19 m20 => lC l17 fun v21 l22 => vAgg v21 fun l23 => lC l23 fun v24 l25 => vInt IntKind.i64 v24 fun n26 => lC l25 fun
  v27 l28 => vInt IntKind.i64 v27 fun n29 => lN l28 (lN l22 (oB (AW.wrL (AW.addVar h14 [Value.int IntKind.i64 0, Value.int IntKind.i64 0]) (AW.next h14) 0 [Value.int IntKind.i64
  n26, Value.int IntKind.i64 n29]) fun h30 => oP (appendB P (AW.addVar (AW.addVar h30 [Value.string (ByteArray.mk #[117, 112, 112, 101, 114])]) [Value.slice (some (Addr.mk (AW.next
  h30) 0 none)) 1 1]) (Array.mk [ty_sl_sl_string, ty_sl_sl_string]) [Value.slice p1 m2 m3, Value.slice (some (Addr.mk (AW.next (AW.addVar h30 [Value.string (ByteArray.mk #[117, 112, 112, 101, 114])]))
  0 none)) 1 1]) fun v31 h32 => vSl v31 fun p33 m34 m35 => EvQ P f_action_Parse [Value.slice p33 m34 m35] h32 fun v36 h37 => vTup v36 fun l38 => lC l38 fun v39 l40 => vSl v39 fun p41 m42 m43
  => lC l40 fun v44 l45 => vAgg v44 fun l46 => lC l46 fun v47 l48 => vInt IntKind.i64 v47 fun n49 => lC l48 fun v50 l51 => vInt IntKind.i64 v50 fun n52 => lN l51 (lN l45 (oB
  (AW.wrL (AW.addVar h37 [Value.int IntKind.i64 0, Value.int IntKind.i64 0]) (AW.next h37) 0 [Value.int IntKind.i64 n49, Value.int IntKind.i64 n52]) fun h53 => EvQ P f_action_Parse
  [Value.slice p4 m5 m6] h53 fun v54 h55 => vTup v54 fun l56 => lC l56 fun v57 l58 => vSl v57 fun p59 m60 m61 => lC l58 fun v62 l63 => vAgg v62 fun l64 => lC l64 fun v65 l66 =>
  vInt IntKind.i64 v65 fun n67 => lC l66 fun v68 l69 => vInt IntKind.i64 v68 fun n70 => lN l69 (lN l63 (oB (AW.wrL (AW.addVar h55 [Value.int IntKind.i64 0, Value.int IntKind.i64
  0]) (AW.next h55) 0 [Value.int IntKind.i64 n67, Value.int IntKind.i64 n70]) fun h71 => oP (appendB P (AW.addVar (AW.addVar (AW.addVar (AW.addVar h71 [Value.string (ByteArray.mk
  #[114, 101, 112, 101, 97, 116]), Value.string (ByteArray.mk #[49])]) [Value.slice (some (Addr.mk (AW.next h71) 0 none)) 2 2]) [Value.string (ByteArray.mk #[101, 110, 100])])
  [Value.slice (some (Addr.mk (AW.next (AW.addVar (AW.addVar h71 [Value.string (ByteArray.mk #[114, 101, 112, 101, 97, 116]), Value.string (ByteArray.mk #[49])]) [Value.slice (some
  (Addr.mk (AW.next h71) 0 none)) 2 2])) 0 none)) 1 1]) (Array.mk [ty_sl_sl_string, ty_sl_sl_string]) [Value.slice p4 m5 m6, Value.slice (some (Addr.mk (AW.next (AW.addVar (AW.addVar (AW.addVar h71
  [Value.string (ByteArray.mk #[114, 101, 112, 101, 97, 116]), Value.string (ByteArray.mk #[49])]) [Value.slice (some (Addr.mk (AW.next h71) 0 none)) 2 2]) [Value.string
  (ByteArray.mk #[101, 110, 100])])) 0 none)) 1 1]) fun v72 h73 => vSl v72 fun p74 m75 m76 => oP (appendB P h73 (Array.mk [ty_sl_sl_string, ty_sl_sl_string]) [Value.slice (some (Addr.mk (AW.next
  (AW.addVar h71 [Value.string (ByteArray.mk #[114, 101, 112, 101, 97, 116]), Value.string (ByteArray.mk #[49])])) 0 none)) 1 1, Value.slice p74 m75 m76]) fun v77 h78 => vSl v77
  fun p79 m80 m81 => EvQ P f_action_Parse [Value.slice p79 m80 m81] h78 fun v82 h83 => vTup v82 fun l84 => lC l84 fun v85 l86 => vSl v85 fun p87 m88 m89 => lC l86 fun v90 l91 => vAgg v90 fun
  l92 => lC l92 fun v93 l94 => vInt IntKind.i64 v93 fun n95 => lC l94 fun v96 l97 => vInt IntKind.i64 v96 fun n98 => lN l97 (lN l91 (oB (AW.wrL (AW.addVar h83 [Value.int
  IntKind.i64 0, Value.int IntKind.i64 0]) (AW.next h83) 0 [Value.int IntKind.i64 n95, Value.int IntKind.i64 n98]) fun h99 => EvQ P f_action_Parse [Value.slice (some (Addr.mk (AW.next
  (AW.addVar (AW.addVar h99 [Value.string (ByteArray.mk #[114, 101, 112, 101, 97, 116]), Value.string (ByteArray.mk #[49, 48, 48, 48])]) [Value.string (ByteArray.mk #[101, 110,
  100])])) 0 none)) 2 2] (AW.addVar (AW.addVar (AW.addVar h99 [Value.string (ByteArray.mk #[114, 101, 112, 101, 97, 116]), Value.string (ByteArray.mk #[49, 48, 48, 48])])
  [Value.string (ByteArray.mk #[101, 110, 100])]) [Value.slice (some (Addr.mk (AW.next h99) 0 none)) 2 2, Value.slice (some (Addr.mk (AW.next (AW.addVar h99 [Value.string
  (ByteArray.mk #[114, 101, 112, 101, 97, 116]), Value.string (ByteArray.mk #[49, 48, 48, 48])])) 0 none)) 1 1]) fun v100 h101 => vTup v100 fun l102 => lC l102 fun v103 l104 => vSl
  v103 fun p105 m106 m107 => lC l104 fun v108 l109 => vAgg v108 fun l110 => lC l110 fun v111 l112 => vInt IntKind.i64 v111 fun n113 => lC l112 fun v114 l115 => vInt IntKind.i64
  v114 fun n116 => lN l115 (lN l109 (oB (AW.wrL (AW.addVar h101 [Value.int IntKind.i64 0, Value.int IntKind.i64 0]) (AW.next h101) 0 [Value.int IntKind.i64 n113, Value.int
  IntKind.i64 n116]) fun h117 => EvQ P f_action_Parse [Value.slice (some (Addr.mk (AW.next (AW.addVar (AW.addVar h117 [Value.string (ByteArray.mk #[114, 101, 112, 101, 97, 116]),
  Value.string (ByteArray.mk #[49, 48, 48, 49])]) [Value.string (ByteArray.mk #[101, 110, 100])])) 0 none)) 2 2] (AW.addVar (AW.addVar (AW.addVar h117 [Value.string (ByteArray.mk
  #[114, 101, 112, 101, 97, 116]), Value.string (ByteArray.mk #[49, 48, 48, 49])]) [Value.string (ByteArray.mk #[101, 110, 100])]) [Value.slice (some (Addr.mk (AW.next h117) 0
  none)) 2 2, Value.slice (some (Addr.mk (AW.next (AW.addVar h117 [Value.string (ByteArray.mk #[114, 101, 112, 101, 97, 116]), Value.string (ByteArray.mk #[49, 48, 48, 49])])) 0
  none)) 1 1]) fun v118 h119 => vTup v118 fun l120 => lC l120 fun v121 l122 => vSl v121 fun p123 m124 m125 => lC l122 fun v126 l127 => vAgg v126 fun l128 => lC l128 fun v129 l130
  => vInt IntKind.i64 v129 fun n131 => lC l130 fun v132 l133 => vInt IntKind.i64 v132 fun n134 => lN l133 (lN l127 (oB (AW.wrL (AW.addVar h119 [Value.int IntKind.i64 0, Value.int
  IntKind.i64 0]) (AW.next h119) 0 [Value.int IntKind.i64 n131, Value.int IntKind.i64 n134]) fun h135 => EvQ P f_action_Parse [Value.slice (some (Addr.mk (AW.next (AW.addVar (AW.addVar h135
  [Value.string (ByteArray.mk #[114, 101, 112, 101, 97, 116]), Value.string (ByteArray.mk #[48, 48])]) [Value.string (ByteArray.mk #[101, 110, 100])])) 0 none)) 2 2] (AW.addVar
  (AW.addVar (AW.addVar h135 [Value.string (ByteArray.mk #[114, 101, 112, 101, 97, 116]), Value.string (ByteArray.mk #[48, 48])]) [Value.string (ByteArray.mk #[101, 110, 100])])
  [Value.slice (some (Addr.mk (AW.next h135) 0 none)) 2 2, Value.slice (some (Addr.mk (AW.next (AW.addVar h135 [Value.string (ByteArray.mk #[114, 101, 112, 101, 97, 116]),
  Value.string (ByteArray.mk #[48, 48])])) 0 none)) 1 1]) fun v136 h137 => vTup v136 fun l138 => lC l138 fun v139 l140 => vSl v139 fun p141 m142 m143 => lC l140 fun v144 l145 =>
  vAgg v144 fun l146 => lC l146 fun v147 l148 => vInt IntKind.i64 v147 fun n149 => lC l148 fun v150 l151 => vInt IntKind.i64 v150 fun n152 => lN l151 (lN l145 (oB (AW.wrL
  (AW.addVar h137 [Value.int IntKind.i64 0, Value.int IntKind.i64 0]) (AW.next h137) 0 [Value.int IntKind.i64 n149, Value.int IntKind.i64 n152]) fun h153 => EvQ P f_action_Parse [Value.slice
  (some (Addr.mk (AW.next (AW.addVar h153 [Value.string (ByteArray.mk #[114, 101, 112, 101, 97, 116]), Value.string (ByteArray.mk #[50])])) 0 none)) 1 1] (AW.addVar (AW.addVar h153
  [Value.string (ByteArray.mk #[114, 101, 112, 101, 97, 116]), Value.string (ByteArray.mk #[50])]) [Value.slice (some (Addr.mk (AW.next h153) 0 none)) 2 2]) fun v154 h155 => vTup
  v154 fun l156 => lC l156 fun v157 l158 => vSl v157 fun p159 m160 m161 => lC l158 fun v162 l163 => vAgg v162 fun l164 => lC l164 fun v165 l166 => vInt IntKind.i64 v165 fun n167 =>
  lC l166 fun v168 l169 => vInt IntKind.i64 v168 fun n170 => lN l169 (lN l163 (oB (AW.wrL (AW.addVar h155 [Value.int IntKind.i64 0, Value.int IntKind.i64 0]) (AW.next h155) 0
  [Value.int IntKind.i64 n167, Value.int IntKind.i64 n170]) fun h171 => bC ((↑m19 : Int) == 256) (oB (AW.rd h171 (AW.next h14) 0) fun v172 => vInt IntKind.i64 v172 fun n173 => oB
  (AW.rd h171 (AW.next h14) 1) fun v174 => vInt IntKind.i64 v174 fun n175 => bC (n173 == 0 && (n175 == 0 && true)) (oB (AW.rd h171 (AW.next h37) 0) fun v176 => vInt IntKind.i64
  v176 fun n177 => oB (AW.rd h171 (AW.next h37) 1) fun v178 => vInt IntKind.i64 v178 fun n179 => bC (n177 == 3 && (n179 == 256 && true)) (EvQ P f_action_Deep [Value.slice p59 m60 m61] h171
  fun v180 h181 => vInt IntKind.i64 v180 fun n182 => bC (n182 == 8) (oB (AW.rd h181 (AW.next h55) 0) fun v183 => vInt IntKind.i64 v183 fun n184 => oB (AW.rd h181 (AW.next h55) 1)
  fun v185 => vInt IntKind.i64 v185 fun n186 => bC (n184 == 0 && (n186 == 0 && true)) (oB (AW.rd h181 (AW.next h83) 0) fun v187 => vInt IntKind.i64 v187 fun n188 => oB (AW.rd h181
  (AW.next h83) 1) fun v189 => vInt IntKind.i64 v189 fun n190 => bC (n188 == 132 && (n190 == 8 && true)) (oB (AW.rd h181 (AW.next h101) 0) fun v191 => vInt IntKind.i64 v191 fun
  n192 => oB (AW.rd h181 (AW.next h101) 1) fun v193 => vInt IntKind.i64 v193 fun n194 => bC (n192 == 0 && (n194 == 0 && true)) (oB (AW.rd h181 (AW.next h119) 0) fun v195 => vInt
  IntKind.i64 v195 fun n196 => oB (AW.rd h181 (AW.next h119) 1) fun v197 => vInt IntKind.i64 v197 fun n198 => bC (n196 == 130 && (n198 == 0 && true)) (oB (AW.rd h181 (AW.next h137)
  0) fun v199 => vInt IntKind.i64 v199 fun n200 => oB (AW.rd h181 (AW.next h137) 1) fun v201 => vInt IntKind.i64 v201 fun n202 => oB (AW.rd h181 (AW.next h119) 0) fun v203 => vInt
  IntKind.i64 v203 fun n204 => oB (AW.rd h181 (AW.next h119) 1) fun v205 => vInt IntKind.i64 v205 fun n206 => bC (n200 == n204 && (n202 == n206 && true)) (oB (AW.rd h181 (AW.next
  h155) 0) fun v207 => vInt IntKind.i64 v207 fun n208 => oB (AW.rd h181 (AW.next h155) 1) fun v209 => vInt IntKind.i64 v209 fun n210 => Q (Value.bool (n208 == 131 && (n210 == 1 &&
  true))) h181) (Q (Value.bool false) h181)) (Q (Value.bool false) h181)) (Q (Value.bool false) h181)) (Q (Value.bool false) h181)) (Q (Value.bool false) h181)) (Q (Value.bool
  false) h181)) (Q (Value.bool false) h171)) (Q (Value.bool false) h171)) (Q (Value.bool false) h171))))))))))))))))))) : unitAt P f_brickyardlaw13_ActionNames 13 [1, 2, 5] [Value.slice p1 m2 m3,
  Value.slice p4 m5 m6, Value.int IntKind.i64 n7] h Q := unit_ok (n := 400) (ann := annOf [(5, [1, 2, 3]), (9, [1, 2, 4]), (13, [1, 2, 5])]) (Eq.mp (by kernel_rfl) H)
theorem r_brickyardlaw13_ActionSame {p1 : Option Addr} {m2 : Nat} {m3 : Nat} {p4 : Option Addr} {m5 : Nat} {m6 : Nat} {h : AW} {Q : Value → AW → Prop} (H : EvQ P f_brickyardlaw13_works [] h fun v7 h8 => vBool v7 fun b9
  => bC (!b9) (Q (Value.bool false) h8) (EvQ P f_brickyardlaw13_great [Value.slice p1 m2 m3] h8 fun v10 h11 => vBool v10 fun b12 => bC b12 (Q (Value.bool true) h11) (EvQ P f_brickyardlaw13_great [Value.slice p4 m5
  m6] h11 fun v13 h14 => vBool v13 fun b15 => bC b15 (Q (Value.bool true) h14) (EvQ P f_action_Same [Value.slice p1 m2 m3, Value.slice p4 m5 m6] h14 fun v16 h17 => vBool v16 fun b18 => EvQ
  P f_brickyardref13_Same [Value.slice p1 m2 m3, Value.slice p4 m5 m6] h17 fun v19 h20 => vBool v19 fun b21 => bC (b18 == b21) (EvQ P f_action_Same [Value.slice p4 m5 m6, Value.slice p1 m2 m3] h20 fun v22
  h23 => vBool v22 fun b24 => EvQ P f_action_Same [Value.slice p1 m2 m3, Value.slice p4 m5 m6] h23 fun v25 h26 => vBool v25 fun b27 => bC (b24 == b27) (EvQ P f_action_Same [Value.slice p1 m2 m3,
  Value.slice p1 m2 m3] h26 fun v28 h29 => vBool v28 fun b30 => Q (Value.bool b30) h29) (Q (Value.bool false) h26)) (Q (Value.bool false) h20))))) : EvQ P f_brickyardlaw13_ActionSame [Value.slice p1 m2
  m3, Value.slice p4 m5 m6] h Q := fn_ok (n := 400) (ann := annOf []) (Eq.mp (by kernel_rfl) H)
theorem r_brickyardlaw13_ActionCut {p1 : Option Addr} {m2 : Nat} {m3 : Nat} {n4 : Int} {h : AW} {Q : Value → AW → Prop} (H : EvQ P f_brickyardlaw13_works [] h fun v5 h6 => vBool v5 fun b7 => bC (!b7) (Q (Value.bool
  false) h6) (EvQ P f_brickyardlaw13_wide [Value.slice p1 m2 m3] h6 fun v8 h9 => vBool v8 fun b10 => bC b10 (Q (Value.bool true) h9) (bC (decide (IntKind.wrap IntKind.i64 ((↑m2 : Int) + 1) = 0))
  False (bC (decide (Int.tmod n4 (IntKind.wrap IntKind.i64 ((↑m2 : Int) + 1)) < 0)) (unitAt P f_brickyardlaw13_ActionCut 8 [0, 5] [Value.slice p1 m2 m3, Value.int IntKind.i64 (IntKind.wrap IntKind.i64
  (Int.tmod n4 (IntKind.wrap IntKind.i64 ((↑m2 : Int) + 1)) + IntKind.wrap IntKind.i64 ((↑m2 : Int) + 1)))] h9 Q) (unitAt P f_brickyardlaw13_ActionCut 8 [0, 5] [Value.slice p1 m2 m3, Value.int
  IntKind.i64 (Int.tmod n4 (IntKind.wrap IntKind.i64 ((↑m2 : Int) + 1)))] h9 Q))))) : EvQ P f_brickyardlaw13_ActionCut [Value.slice p1 m2 m3, Value.int IntKind.i64 n4] h Q := fn_ok (n := 400) (ann :=
  annOf [(8, [0, 5])]) (Eq.mp (by kernel_rfl) H)
theorem r_brickyardlaw13_ActionCut_8 {p1 : Option Addr} {m2 : Nat} {m3 : Nat} {n4 : Int} {h : AW} {Q : Value → AW → Prop} (H : EvQ P f_action_Parse [Value.slice p1 m2 m3] h fun v5 h6 => vTup v5 fun l7 => lC l7
  fun v8 l9 => vSl v8 fun p10 m11 m12 => lC l9 fun v13 l14 => vAgg v13 fun l15 => lC l15 fun v16 l17 => vInt IntKind.i64 v16 fun n18 => lC l17 fun v19 l20 => vInt IntKind.i64 v19
  fun n21 => lN l20 (lN l14 (oB (AW.wrL (AW.addVar h6 [Value.int IntKind.i64 0, Value.int IntKind.i64 0]) (AW.next h6) 0 [Value.int IntKind.i64 n18, Value.int IntKind.i64 n21]) fun
  h22 => oB (natBnd n4 m3) fun m23 => bC (Nat.ble m23 m3) (oB (shO p1 0) fun p24 => EvQ P f_action_Parse [Value.slice p24 (m23 - 0) (m3 - 0)] h22 fun v25 h26 => vTup v25 fun l27 => lC l27
  fun v28 l29 => vSl v28 fun p30 m31 m32 => lC l29 fun v33 l34 => vAgg v33 fun l35 => lC l35 fun v36 l37 => vInt IntKind.i64 v36 fun n38 => lC l37 fun v39 l40 => vInt IntKind.i64
  v39 fun n41 => lN l40 (lN l34 (oB (AW.wrL (AW.addVar h26 [Value.int IntKind.i64 0, Value.int IntKind.i64 0]) (AW.next h26) 0 [Value.int IntKind.i64 n38, Value.int IntKind.i64
  n41]) fun h42 => oB (AW.rd h42 (AW.next h6) 0) fun v43 => vInt IntKind.i64 v43 fun n44 => oB (AW.rd h42 (AW.next h6) 1) fun v45 => vInt IntKind.i64 v45 fun n46 => bC (!(n44 == 0
  && (n46 == 0 && true))) (oB (AW.rd h42 (AW.next h6) 1) fun v47 => vInt IntKind.i64 v47 fun n48 => bC (decide (n48 ≥ n4)) (Q (Value.bool true) h42) (oB (AW.rd h42 (AW.next h26) 0)
  fun v49 => vInt IntKind.i64 v49 fun n50 => oB (AW.rd h42 (AW.next h26) 1) fun v51 => vInt IntKind.i64 v51 fun n52 => oB (AW.rd h42 (AW.next h6) 0) fun v53 => vInt IntKind.i64 v53
  fun n54 => oB (AW.rd h42 (AW.next h6) 1) fun v55 => vInt IntKind.i64 v55 fun n56 => bC (n50 == n54 && (n52 == n56 && true)) (Q (Value.bool ((↑m31 : Int) == 0)) h42) (Q
  (Value.bool false) h42))) (oB (AW.rd h42 (AW.next h26) 0) fun v57 => vInt IntKind.i64 v57 fun n58 => oB (AW.rd h42 (AW.next h26) 1) fun v59 => vInt IntKind.i64 v59 fun n60 => bC
  (!(n58 == 0 && (n60 == 0 && true))) (oB (AW.rd h42 (AW.next h26) 0) fun v61 => vInt IntKind.i64 v61 fun n62 => oB (AW.rd h42 (AW.next h26) 1) fun v63 => vInt IntKind.i64 v63 fun
  n64 => bC (n62 == 131 && (n64 == n4 && true)) (Q (Value.bool ((↑m31 : Int) == 0)) h42) (Q (Value.bool false) h42)) (bC (decide ((↑m31 : Int) ≤ (↑m11 : Int))) (oB (natBnd (↑m31 :
  Int) m12) fun m65 => bC (Nat.ble m65 m12) (oB (shO p10 0) fun p66 => EvQ P f_action_Same [Value.slice p30 m31 m32, Value.slice p66 (m65 - 0) (m12 - 0)] h42 fun v67 h68 => vBool v67 fun
  b69 => Q (Value.bool b69) h68) False) (Q (Value.bool false) h42)))))) False))) : unitAt P f_brickyardlaw13_ActionCut 8 [0, 5] [Value.slice p1 m2 m3, Value.int IntKind.i64 n4] h Q := unit_ok (n := 400)
  (ann := annOf [(8, [0, 5])]) (Eq.mp (by kernel_rfl) H)
theorem r_brickyardlaw13_ActionJoins {p1 : Option Addr} {m2 : Nat} {m3 : Nat} {p4 : Option Addr} {m5 : Nat} {m6 : Nat} {n7 : Int} {h : AW} {Q : Value → AW → Prop} (H : EvQ P f_brickyardlaw13_works [] h fun v8 h9 => vBool
  v8 fun b10 => bC (!b10) (Q (Value.bool false) h9) (EvQ P f_brickyardlaw13_great [Value.slice p1 m2 m3] h9 fun v11 h12 => vBool v11 fun b13 => bC b13 (Q (Value.bool true) h12) (EvQ P f_brickyardlaw13_great
  [Value.slice p4 m5 m6] h12 fun v14 h15 => vBool v14 fun b16 => bC b16 (Q (Value.bool true) h15) (EvQ P f_action_May [Value.slice p1 m2 m3] h15 fun v17 h18 => vBool v17 fun b19 => bC
  (!b19) (Q (Value.bool true) h18) (EvQ P f_action_May [Value.slice p4 m5 m6] h18 fun v20 h21 => vBool v20 fun b22 => bC (!b22) (Q (Value.bool true) h21) (EvQ P f_action_Lines [Value.slice p1 m2 m3]
  h21 fun v23 h24 => vTup v23 fun l25 => lC l25 fun v26 l27 => vSl v26 fun p28 m29 m30 => lC l27 fun v31 l32 => vInt IntKind.i64 v31 fun n33 => lN l32 (EvQ P f_action_Lines [Value.slice p4
  m5 m6] h24 fun v34 h35 => vTup v34 fun l36 => lC l36 fun v37 l38 => vSl v37 fun p39 m40 m41 => lC l38 fun v42 l43 => vInt IntKind.i64 v42 fun n44 => lN l43 (bC (n33 != 0) (Q
  (Value.bool false) h35) (bC (n44 != 0) (Q (Value.bool false) h35) (oP (appendB P (AW.addVar h35 []) (Array.mk [ty_sl_api_Stmt, ty_sl_api_Stmt]) [Value.slice (some (Addr.mk (AW.next h35) 0 none)) 0
  0, Value.slice p1 m2 m3]) fun v45 h46 => vSl v45 fun p47 m48 m49 => oP (appendB P h46 (Array.mk [ty_sl_api_Stmt, ty_sl_api_Stmt]) [Value.slice p47 m48 m49, Value.slice p4 m5 m6]) fun v50 h51 =>
  vSl v50 fun p52 m53 m54 => oP (appendB P (AW.addVar h51 []) (Array.mk [ty_sl_sl_string, ty_sl_sl_string]) [Value.slice (some (Addr.mk (AW.next h51) 0 none)) 0 0, Value.slice p28 m29 m30]) fun v55
  h56 => vSl v55 fun p57 m58 m59 => oP (appendB P h56 (Array.mk [ty_sl_sl_string, ty_sl_sl_string]) [Value.slice p57 m58 m59, Value.slice p39 m40 m41]) fun v60 h61 => vSl v60 fun p62 m63 m64 => EvQ P
  f_action_Parse [Value.slice p62 m63 m64] h61 fun v65 h66 => vTup v65 fun l67 => lC l67 fun v68 l69 => vSl v68 fun p70 m71 m72 => lC l69 fun v73 l74 => vAgg v73 fun l75 => lC l75 fun v76
  l77 => vInt IntKind.i64 v76 fun n78 => lC l77 fun v79 l80 => vInt IntKind.i64 v79 fun n81 => lN l80 (lN l74 (oB (AW.wrL (AW.addVar h66 [Value.int IntKind.i64 0, Value.int
  IntKind.i64 0]) (AW.next h66) 0 [Value.int IntKind.i64 n78, Value.int IntKind.i64 n81]) fun h82 => EvQ P f_action_Size [Value.slice p1 m2 m3] h82 fun v83 h84 => vInt IntKind.i64 v83 fun
  n85 => EvQ P f_action_Size [Value.slice p4 m5 m6] h84 fun v86 h87 => vInt IntKind.i64 v86 fun n88 => bC (decide (IntKind.wrap IntKind.i64 (n85 + n88) > 256)) (oB (AW.rd h87 (AW.next h66)
  0) fun v89 => vInt IntKind.i64 v89 fun n90 => bC (n90 != 3) (Q (Value.bool false) h87) (bC ((↑m71 : Int) != 0) (Q (Value.bool false) h87) (EvQ P f_action_May [Value.slice p52 m53 m54]
  h87 fun v91 h92 => vBool v91 fun b93 => bC b93 (Q (Value.bool false) h92) (unitAt P f_brickyardlaw13_ActionJoins 16 [0, 2, 7, 13] [Value.slice p1 m2 m3, Value.int IntKind.i64 n7, Value.slice p28 m29 m30,
  Value.pointer (some (Addr.mk (AW.next h66) 0 none))] h92 Q)))) (oB (AW.rd h87 (AW.next h66) 0) fun v94 => vInt IntKind.i64 v94 fun n95 => oB (AW.rd h87 (AW.next h66) 1) fun v96
  => vInt IntKind.i64 v96 fun n97 => bC (!(n95 == 0 && (n97 == 0 && true))) (Q (Value.bool false) h87) (EvQ P f_action_Same [Value.slice p70 m71 m72, Value.slice p52 m53 m54] h87 fun v98
  h99 => vBool v98 fun b100 => bC (!b100) (Q (Value.bool false) h99) (EvQ P f_action_Deep [Value.slice p52 m53 m54] h99 fun v101 h102 => vInt IntKind.i64 v101 fun n103 => EvQ P f_action_Deep
  [Value.slice p1 m2 m3] h102 fun v104 h105 => vInt IntKind.i64 v104 fun n106 => EvQ P f_action_Deep [Value.slice p4 m5 m6] h105 fun v107 h108 => vInt IntKind.i64 v107 fun n109 => bC (n103
  != if n109 > n106 then n109 else n106) (Q (Value.bool false) h108) (unitAt P f_brickyardlaw13_ActionJoins 16 [0, 2, 7, 13] [Value.slice p1 m2 m3, Value.int IntKind.i64 n7, Value.slice p28 m29 m30,
  Value.pointer (some (Addr.mk (AW.next h66) 0 none))] h108 Q)))))))))))))))) : EvQ P f_brickyardlaw13_ActionJoins [Value.slice p1 m2 m3, Value.slice p4 m5 m6, Value.int IntKind.i64 n7] h Q := fn_ok (n :=
  400) (ann := annOf [(16, [0, 2, 7, 13]), (19, [0, 2, 7, 13])]) (Eq.mp (by kernel_rfl) H)
theorem r_brickyardlaw13_ActionJoins_16 {p1 : Option Addr} {m2 : Nat} {m3 : Nat} {n4 : Int} {p5 : Option Addr} {m6 : Nat} {m7 : Nat} {m8 : Nat} {h : AW} {Q : Value → AW → Prop} (H : bC (decide (Int.tmod
  n4 1001 < 0)) (unitAt P f_brickyardlaw13_ActionJoins 19 [0, 2, 7, 13] [Value.slice p1 m2 m3, Value.int IntKind.i64 (IntKind.wrap IntKind.i64 (Int.tmod n4 1001 + 1001)), Value.slice p5 m6 m7,
  Value.pointer (some (Addr.mk m8 0 none))] h Q) (unitAt P f_brickyardlaw13_ActionJoins 19 [0, 2, 7, 13] [Value.slice p1 m2 m3, Value.int IntKind.i64 (Int.tmod n4 1001), Value.slice p5 m6 m7, Value.pointer
  (some (Addr.mk m8 0 none))] h Q)) : unitAt P f_brickyardlaw13_ActionJoins 16 [0, 2, 7, 13] [Value.slice p1 m2 m3, Value.int IntKind.i64 n4, Value.slice p5 m6 m7, Value.pointer (some (Addr.mk m8 0 none))]
  h Q := unit_ok (n := 400) (ann := annOf [(16, [0, 2, 7, 13]), (19, [0, 2, 7, 13])]) (Eq.mp (by kernel_rfl) H)
theorem r_brickyardlaw13_ActionJoins_19 {p1 : Option Addr} {m2 : Nat} {m3 : Nat} {n4 : Int} {p5 : Option Addr} {m6 : Nat} {m7 : Nat} {m8 : Nat} {h : AW} {Q : Value → AW → Prop} (H : EvQ P f_brickyardref13_Digits [Value.int
  IntKind.i64 n4] h fun v9 h10 => vStr v9 fun s11 => oP (appendB P (AW.addVar (AW.addVar h10 [Value.string (ByteArray.mk #[114, 101, 112, 101, 97, 116]), Value.string s11])
  [Value.slice (some (Addr.mk (AW.next h10) 0 none)) 2 2]) (Array.mk [ty_sl_sl_string, ty_sl_sl_string]) [Value.slice (some (Addr.mk (AW.next (AW.addVar h10 [Value.string (ByteArray.mk #[114, 101,
  112, 101, 97, 116]), Value.string s11])) 0 none)) 1 1, Value.slice p5 m6 m7]) fun v12 h13 => vSl v12 fun p14 m15 m16 => oP (appendB P (AW.addVar (AW.addVar h13 [Value.string
  (ByteArray.mk #[101, 110, 100])]) [Value.slice (some (Addr.mk (AW.next h13) 0 none)) 1 1]) (Array.mk [ty_sl_sl_string, ty_sl_sl_string]) [Value.slice p14 m15 m16, Value.slice (some (Addr.mk (AW.next
  (AW.addVar h13 [Value.string (ByteArray.mk #[101, 110, 100])])) 0 none)) 1 1]) fun v17 h18 => vSl v17 fun p19 m20 m21 => EvQ P f_action_Parse [Value.slice p19 m20 m21] h18 fun v22 h23 =>
  vTup v22 fun l24 => lC l24 fun v25 l26 => vSl v25 fun p27 m28 m29 => lC l26 fun v30 l31 => vAgg v30 fun l32 => lC l32 fun v33 l34 => vInt IntKind.i64 v33 fun n35 => lC l34 fun
  v36 l37 => vInt IntKind.i64 v36 fun n38 => lN l37 (lN l31 (oB (AW.wrL h23 m8 0 [Value.int IntKind.i64 n35, Value.int IntKind.i64 n38]) fun h39 => EvQ P f_action_Size [Value.slice p1 m2
  m3] (AW.addVar h39 [Value.int IntKind.i64 10, Value.slice none 0 0, Value.int IntKind.i64 n4, Value.slice p1 m2 m3]) fun v40 h41 => vInt IntKind.i64 v40 fun n42 => bC (decide
  (n42 < 256)) (EvQ P f_action_Deep [Value.slice p1 m2 m3] h41 fun v43 h44 => vInt IntKind.i64 v43 fun n45 => bC (decide (n45 < 8)) (oB (AW.rd h44 m8 0) fun v46 => vInt IntKind.i64 v46 fun
  n47 => oB (AW.rd h44 m8 1) fun v48 => vInt IntKind.i64 v48 fun n49 => bC (n47 == 0 && (n49 == 0 && true)) (EvQ P f_action_Same [Value.slice p27 m28 m29, Value.slice (some (Addr.mk
  (AW.next h39) 0 none)) 1 1] h44 fun v50 h51 => vBool v50 fun b52 => bC b52 (EvQ P f_action_May [Value.slice (some (Addr.mk (AW.next h39) 0 none)) 1 1] h51 fun v53 h54 => vBool v53 fun
  b55 => bC b55 (EvQ P f_action_Size [Value.slice (some (Addr.mk (AW.next h39) 0 none)) 1 1] h54 fun v56 h57 => vInt IntKind.i64 v56 fun n58 => EvQ P f_action_Size [Value.slice p1 m2 m3] h57 fun v59
  h60 => vInt IntKind.i64 v59 fun n61 => bC (n58 == IntKind.wrap IntKind.i64 (n61 + 1)) (EvQ P f_action_Deep [Value.slice (some (Addr.mk (AW.next h39) 0 none)) 1 1] h60 fun v62 h63 => vInt
  IntKind.i64 v62 fun n64 => EvQ P f_action_Deep [Value.slice p1 m2 m3] h63 fun v65 h66 => vInt IntKind.i64 v65 fun n67 => Q (Value.bool (n64 == IntKind.wrap IntKind.i64 (n67 + 1))) h66) (Q
  (Value.bool false) h60)) (Q (Value.bool false) h54)) (Q (Value.bool false) h51)) (Q (Value.bool false) h44)) (oB (AW.rd h44 m8 0) fun v68 => vInt IntKind.i64 v68 fun n69 => bC
  (n69 == 3) (bC ((↑m28 : Int) == 0) (EvQ P f_action_May [Value.slice (some (Addr.mk (AW.next h39) 0 none)) 1 1] h44 fun v70 h71 => vBool v70 fun b72 => Q (Value.bool !b72) h71) (Q
  (Value.bool false) h44)) (oB (AW.rd h44 m8 0) fun v73 => vInt IntKind.i64 v73 fun n74 => bC (n74 == 132) (bC ((↑m28 : Int) == 0) (EvQ P f_action_May [Value.slice (some (Addr.mk (AW.next
  h39) 0 none)) 1 1] h44 fun v75 h76 => vBool v75 fun b77 => Q (Value.bool !b77) h76) (Q (Value.bool false) h44)) (Q (Value.bool false) h44)))) (oB (AW.rd h41 m8 0) fun v78 => vInt
  IntKind.i64 v78 fun n79 => bC (n79 == 3) (bC ((↑m28 : Int) == 0) (EvQ P f_action_May [Value.slice (some (Addr.mk (AW.next h39) 0 none)) 1 1] h41 fun v80 h81 => vBool v80 fun b82 => Q
  (Value.bool !b82) h81) (Q (Value.bool false) h41)) (oB (AW.rd h41 m8 0) fun v83 => vInt IntKind.i64 v83 fun n84 => bC (n84 == 132) (bC ((↑m28 : Int) == 0) (EvQ P f_action_May
  [Value.slice (some (Addr.mk (AW.next h39) 0 none)) 1 1] h41 fun v85 h86 => vBool v85 fun b87 => Q (Value.bool !b87) h86) (Q (Value.bool false) h41)) (Q (Value.bool false)
  h41)))))) : unitAt P f_brickyardlaw13_ActionJoins 19 [0, 2, 7, 13] [Value.slice p1 m2 m3, Value.int IntKind.i64 n4, Value.slice p5 m6 m7, Value.pointer (some (Addr.mk m8 0 none))] h Q := unit_ok (n :=
  400) (ann := annOf [(16, [0, 2, 7, 13]), (19, [0, 2, 7, 13])]) (Eq.mp (by kernel_rfl) H)
theorem r_brickyardlaw13_ActionPrints {p1 : Option Addr} {m2 : Nat} {m3 : Nat} {h : AW} {Q : Value → AW → Prop} (H : EvQ P f_brickyardlaw13_works [] h fun v4 h5 => vBool v4 fun b6 => bC (!b6) (Q (Value.bool false) h5) (EvQ
  P f_brickyardlaw13_great [Value.slice p1 m2 m3] h5 fun v7 h8 => vBool v7 fun b9 => bC b9 (Q (Value.bool true) h8) (EvQ P f_action_Lines [Value.slice p1 m2 m3] h8 fun v10 h11 => vTup v10 fun l12 => lC l12
  fun v13 l14 => vSl v13 fun p15 m16 m17 => lC l14 fun v18 l19 => vInt IntKind.i64 v18 fun n20 => lN l19 (EvQ P f_brickyardref13_Lines [Value.slice p1 m2 m3] h11 fun v21 h22 => vTup v21 fun l23 =>
  lC l23 fun v24 l25 => vSl v24 fun p26 m27 m28 => lC l25 fun v29 l30 => vInt IntKind.i64 v29 fun n31 => lN l30 (EvQ P f_action_Print [Value.slice p1 m2 m3] h22 fun v32 h33 => vTup v32 fun
  l34 => lC l34 fun v35 l36 => vStr v35 fun s37 => lC l36 fun v38 l39 => vInt IntKind.i64 v38 fun n40 => lN l39 (EvQ P f_brickyardref13_Print [Value.slice p1 m2 m3] h33 fun v41 h42 => vTup v41 fun
  l43 => lC l43 fun v44 l45 => vStr v44 fun s46 => lC l45 fun v47 l48 => vInt IntKind.i64 v47 fun n49 => lN l48 (EvQ P f_action_May [Value.slice p1 m2 m3] h42 fun v50 h51 => vBool v50 fun
  b52 => EvQ P f_brickyardref13_May [Value.slice p1 m2 m3] h51 fun v53 h54 => vBool v53 fun b55 => bC (b52 == b55) (EvQ P f_action_Size [Value.slice p1 m2 m3] h54 fun v56 h57 => vInt IntKind.i64 v56 fun
  n58 => EvQ P f_brickyardref13_Size [Value.slice p1 m2 m3] h57 fun v59 h60 => vInt IntKind.i64 v59 fun n61 => bC (n58 == n61) (EvQ P f_action_Deep [Value.slice p1 m2 m3] h60 fun v62 h63 => vInt IntKind.i64
  v62 fun n64 => EvQ P f_brickyardref13_Deep [Value.slice p1 m2 m3] h63 fun v65 h66 => vInt IntKind.i64 v65 fun n67 => bC (n64 == n67) (EvQ P f_brickyardref13_Alike [Value.slice p15 m16 m17, Value.slice p26 m27 m28]
  h66 fun v68 h69 => vBool v68 fun b70 => bC b70 (bC (n20 == n31) (bC (bEq s37 s46) (Q (Value.bool (n40 == n49)) h69) (Q (Value.bool false) h69)) (Q (Value.bool false) h69)) (Q
  (Value.bool false) h69)) (Q (Value.bool false) h66)) (Q (Value.bool false) h60)) (Q (Value.bool false) h54)))))))) : EvQ P f_brickyardlaw13_ActionPrints [Value.slice p1 m2 m3] h Q := fn_ok (n := 400) (ann
  := annOf []) (Eq.mp (by kernel_rfl) H)
theorem r_brickyardlaw13_ActionBack {p1 : Option Addr} {m2 : Nat} {m3 : Nat} {h : AW} {Q : Value → AW → Prop} (H : EvQ P f_brickyardlaw13_works [] h fun v4 h5 => vBool v4 fun b6 => bC (!b6) (Q (Value.bool false) h5)
  (EvQ P f_brickyardlaw13_wide [Value.slice p1 m2 m3] h5 fun v7 h8 => vBool v7 fun b9 => bC b9 (Q (Value.bool true) h8) (EvQ P f_action_Parse [Value.slice p1 m2 m3] h8 fun v10 h11 => vTup v10 fun l12 => lC
  l12 fun v13 l14 => vSl v13 fun p15 m16 m17 => lC l14 fun v18 l19 => vAgg v18 fun l20 => lC l20 fun v21 l22 => vInt IntKind.i64 v21 fun n23 => lC l22 fun v24 l25 => vInt
  IntKind.i64 v24 fun n26 => lN l25 (lN l19 (oB (AW.wrL (AW.addVar h11 [Value.int IntKind.i64 0, Value.int IntKind.i64 0]) (AW.next h11) 0 [Value.int IntKind.i64 n23, Value.int
  IntKind.i64 n26]) fun h27 => oB (AW.rd h27 (AW.next h11) 0) fun v28 => vInt IntKind.i64 v28 fun n29 => oB (AW.rd h27 (AW.next h11) 1) fun v30 => vInt IntKind.i64 v30 fun n31 =>
  bC (!(n29 == 0 && (n31 == 0 && true))) (bC ((↑m16 : Int) == 0) (oB (AW.rd h27 (AW.next h11) 0) fun v32 => vInt IntKind.i64 v32 fun n33 => bC (n33 != 0) (oB (AW.rd h27 (AW.next
  h11) 1) fun v34 => vInt IntKind.i64 v34 fun n35 => bC (decide (n35 ≥ 0)) (oB (AW.rd h27 (AW.next h11) 1) fun v36 => vInt IntKind.i64 v36 fun n37 => Q (Value.bool (decide (n37 ≤
  (↑m2 : Int)))) h27) (Q (Value.bool false) h27)) (Q (Value.bool false) h27)) (Q (Value.bool false) h27)) (EvQ P f_action_Lines [Value.slice p15 m16 m17] h27 fun v38 h39 => vTup v38 fun l40
  => lC l40 fun v41 l42 => vSl v41 fun p43 m44 m45 => lC l42 fun v46 l47 => vInt IntKind.i64 v46 fun n48 => lN l47 (EvQ P f_action_Print [Value.slice p15 m16 m17] h39 fun v49 h50 => vTup v49
  fun l51 => lC l51 fun v52 l53 => vStr v52 fun s54 => lC l53 fun v55 l56 => vInt IntKind.i64 v55 fun n57 => lN l56 (EvQ P f_action_May [Value.slice p15 m16 m17] h50 fun v58 h59 => vBool
  v58 fun b60 => bC (!b60) (Q (Value.bool false) h59) (bC (n48 != 0) (Q (Value.bool false) h59) (bC (n57 != 0) (Q (Value.bool false) h59) (EvQ P f_brickyardref13_Alike [Value.slice p43 m44 m45,
  Value.slice p1 m2 m3] h59 fun v61 h62 => vBool v61 fun b63 => bC (!b63) (Q (Value.bool false) h62) (EvQ P f_action_Parse [Value.slice p43 m44 m45] h62 fun v64 h65 => vTup v64 fun l66 => lC
  l66 fun v67 l68 => vSl v67 fun p69 m70 m71 => lC l68 fun v72 l73 => vAgg v72 fun l74 => lC l74 fun v75 l76 => vInt IntKind.i64 v75 fun n77 => lC l76 fun v78 l79 => vInt
  IntKind.i64 v78 fun n80 => lN l79 (lN l73 (oB (AW.wrL (AW.addVar h65 [Value.int IntKind.i64 0, Value.int IntKind.i64 0]) (AW.next h65) 0 [Value.int IntKind.i64 n77, Value.int
  IntKind.i64 n80]) fun h81 => oB (AW.rd h81 (AW.next h65) 0) fun v82 => vInt IntKind.i64 v82 fun n83 => oB (AW.rd h81 (AW.next h65) 1) fun v84 => vInt IntKind.i64 v84 fun n85 =>
  bC (!(n83 == 0 && (n85 == 0 && true))) (Q (Value.bool false) h81) (EvQ P f_action_Same [Value.slice p15 m16 m17, Value.slice p69 m70 m71] h81 fun v86 h87 => vBool v86 fun b88 => bC (!b88)
  (Q (Value.bool false) h87) (bC (decide ((↑(ByteArray.size s54) : Int) > 32768)) (Q (Value.bool true) h87) (EvQ P f_lex_Lines [Value.string s54] h87 fun v89 h90 => vTup v89 fun l91 => lC
  l91 fun v92 l93 => vSl v92 fun p94 m95 m96 => lC l93 fun v97 l98 => vAgg v97 fun l99 => lC l99 fun v100 l101 => vInt IntKind.i64 v100 fun n102 => lC l101 fun v103 l104 => vInt
  IntKind.i64 v103 fun n105 => lN l104 (lN l98 (oB (AW.wrL (AW.addVar h90 [Value.int IntKind.i64 0, Value.int IntKind.i64 0]) (AW.next h90) 0 [Value.int IntKind.i64 n102, Value.int
  IntKind.i64 n105]) fun h106 => oB (AW.rd h106 (AW.next h90) 0) fun v107 => vInt IntKind.i64 v107 fun n108 => oB (AW.rd h106 (AW.next h90) 1) fun v109 => vInt IntKind.i64 v109 fun
  n110 => bC (!(n108 == 0 && (n110 == 0 && true))) (Q (Value.bool false) h106) (bC ((↑m95 : Int) != (↑m2 : Int)) (Q (Value.bool false) h106) (unitAt P f_brickyardlaw13_ActionBack 21 [0, 11, 13]
  [Value.slice p1 m2 m3, Value.slice p94 m95 m96, Value.int IntKind.i64 0] h106 Q))))))))))))))))))))) : EvQ P f_brickyardlaw13_ActionBack [Value.slice p1 m2 m3] h Q := fn_ok (n := 400) (ann := annOf
  [(21, [0, 11, 13]), (26, [0, 11, 13, 14])]) (Eq.mp (by kernel_rfl) H)
theorem r_brickyardlaw13_ActionBack_21 {p1 : Option Addr} {m2 : Nat} {m3 : Nat} {p4 : Option Addr} {m5 : Nat} {m6 : Nat} {n7 : Int} {h : AW} {Q : Value → AW → Prop} (H : bC (decide (n7 < (↑m2 : Int)))
  (aP p4 fun m8 m9 => oB (natIdx n7 m5) fun m10 => oB (AW.rd h m8 (m9 + m10 * 3 + 2)) fun v11 => vSl v11 fun p12 m13 m14 => aP p1 fun m15 m16 => oB (natIdx n7 m2) fun m17 => oB
  (AW.rd h m15 (m16 + m17 * 1)) fun v18 => vSl v18 fun p19 m20 m21 => bC ((↑m13 : Int) != (↑m20 : Int)) (Q (Value.bool false) h) (aP p4 fun m22 m23 => oB (natIdx n7 m5) fun m24 =>
  oB (AW.rd h m22 (m23 + m24 * 3 + 1)) fun v25 => vBool v25 fun b26 => bC b26 (Q (Value.bool false) h) (unitAt P f_brickyardlaw13_ActionBack 26 [0, 11, 13, 14] [Value.slice p1 m2 m3, Value.slice p4 m5
  m6, Value.int IntKind.i64 n7, Value.int IntKind.i64 0] h Q))) (Q (Value.bool true) h)) : unitAt P f_brickyardlaw13_ActionBack 21 [0, 11, 13] [Value.slice p1 m2 m3, Value.slice p4 m5 m6, Value.int
  IntKind.i64 n7] h Q := unit_ok (n := 400) (ann := annOf [(21, [0, 11, 13]), (26, [0, 11, 13, 14])]) (Eq.mp (by kernel_rfl) H)
theorem r_brickyardlaw13_ActionBack_26 {p1 : Option Addr} {m2 : Nat} {m3 : Nat} {p4 : Option Addr} {m5 : Nat} {m6 : Nat} {n7 : Int} {n8 : Int} {h : AW} {Q : Value → AW → Prop} (H : aP p1 fun m9 m10 =>
  oB (natIdx n7 m2) fun m11 => oB (AW.rd h m9 (m10 + m11 * 1)) fun v12 => vSl v12 fun p13 m14 m15 => bC (decide (n8 < (↑m14 : Int))) (aP p4 fun m16 m17 => oB (natIdx n7 m5) fun m18
  => oB (AW.rd h m16 (m17 + m18 * 3 + 2)) fun v19 => vSl v19 fun p20 m21 m22 => aP p20 fun m23 m24 => oB (natIdx n8 m21) fun m25 => oB (AW.rd h m23 (m24 + m25 * 5)) fun v26 => vStr
  v26 fun s27 => aP p1 fun m28 m29 => oB (natIdx n7 m2) fun m30 => oB (AW.rd h m28 (m29 + m30 * 1)) fun v31 => vSl v31 fun p32 m33 m34 => aP p32 fun m35 m36 => oB (natIdx n8 m33)
  fun m37 => oB (AW.rd h m35 (m36 + m37 * 1)) fun v38 => vStr v38 fun s39 => bC (!bEq s27 s39) (Q (Value.bool false) h) (aP p4 fun m40 m41 => oB (natIdx n7 m5) fun m42 => oB (AW.rd
  h m40 (m41 + m42 * 3 + 2)) fun v43 => vSl v43 fun p44 m45 m46 => aP p44 fun m47 m48 => oB (natIdx n8 m45) fun m49 => oB (AW.rd h m47 (m48 + m49 * 5 + 4)) fun v50 => vBool v50 fun
  b51 => bC b51 (Q (Value.bool false) h) (unitAt P f_brickyardlaw13_ActionBack 26 [0, 11, 13, 14] [Value.slice p1 m2 m3, Value.slice p4 m5 m6, Value.int IntKind.i64 n7, Value.int IntKind.i64
  (IntKind.wrap IntKind.i64 (n8 + 1))] h Q))) (unitAt P f_brickyardlaw13_ActionBack 21 [0, 11, 13] [Value.slice p1 m2 m3, Value.slice p4 m5 m6, Value.int IntKind.i64 (IntKind.wrap IntKind.i64 (n7 + 1))]
  h Q)) : unitAt P f_brickyardlaw13_ActionBack 26 [0, 11, 13, 14] [Value.slice p1 m2 m3, Value.slice p4 m5 m6, Value.int IntKind.i64 n7, Value.int IntKind.i64 n8] h Q := unit_ok (n := 400) (ann := annOf
  [(21, [0, 11, 13]), (26, [0, 11, 13, 14])]) (Eq.mp (by kernel_rfl) H)
theorem r_brickyardlaw13_wide {p1 : Option Addr} {m2 : Nat} {m3 : Nat} {h : AW} {Q : Value → AW → Prop} (H : unitAt P f_brickyardlaw13_wide 3 [0, 3, 4] [Value.slice p1 m2 m3, Value.int IntKind.i64 0, Value.int
  IntKind.i64 0] h Q) : EvQ P f_brickyardlaw13_wide [Value.slice p1 m2 m3] h Q := fn_ok (n := 400) (ann := annOf [(3, [0, 3, 4]), (7, [0, 3, 4, 5])]) (Eq.mp (by kernel_rfl) H)
theorem r_brickyardlaw13_wide_3 {p1 : Option Addr} {m2 : Nat} {m3 : Nat} {n4 : Int} {n5 : Int} {h : AW} {Q : Value → AW → Prop} (H : bC (decide (n5 < (↑m2 : Int))) (bC (decide (n4 < 262144))
  (unitAt P f_brickyardlaw13_wide 7 [0, 3, 4, 5] [Value.slice p1 m2 m3, Value.int IntKind.i64 (IntKind.wrap IntKind.i64 (n4 + 1)), Value.int IntKind.i64 n5, Value.int IntKind.i64 0] h Q) (Q
  (Value.bool (decide (n4 ≥ 262144))) h)) (Q (Value.bool (decide (n4 ≥ 262144))) h)) : unitAt P f_brickyardlaw13_wide 3 [0, 3, 4] [Value.slice p1 m2 m3, Value.int IntKind.i64 n4, Value.int
  IntKind.i64 n5] h Q := unit_ok (n := 400) (ann := annOf [(3, [0, 3, 4]), (7, [0, 3, 4, 5])]) (Eq.mp (by kernel_rfl) H)
theorem r_brickyardlaw13_wide_7 {p1 : Option Addr} {m2 : Nat} {m3 : Nat} {n4 : Int} {n5 : Int} {n6 : Int} {h : AW} {Q : Value → AW → Prop} (H : aP p1 fun m7 m8 => oB (natIdx n5 m2) fun m9 => oB
  (AW.rd h m7 (m8 + m9 * 1)) fun v10 => vSl v10 fun p11 m12 m13 => bC (decide (n6 < (↑m12 : Int))) (bC (decide (n4 < 262144)) (aP p1 fun m14 m15 => oB (natIdx n5 m2) fun m16 => oB
  (AW.rd h m14 (m15 + m16 * 1)) fun v17 => vSl v17 fun p18 m19 m20 => aP p18 fun m21 m22 => oB (natIdx n6 m19) fun m23 => oB (AW.rd h m21 (m22 + m23 * 1)) fun v24 => vStr v24 fun
  s25 => unitAt P f_brickyardlaw13_wide 7 [0, 3, 4, 5] [Value.slice p1 m2 m3, Value.int IntKind.i64 (IntKind.wrap IntKind.i64 (n4 + IntKind.wrap IntKind.i64 (1 + (↑(ByteArray.size s25) : Int)))),
  Value.int IntKind.i64 n5, Value.int IntKind.i64 (IntKind.wrap IntKind.i64 (n6 + 1))] h Q) (unitAt P f_brickyardlaw13_wide 3 [0, 3, 4] [Value.slice p1 m2 m3, Value.int IntKind.i64 n4, Value.int
  IntKind.i64 (IntKind.wrap IntKind.i64 (n5 + 1))] h Q)) (unitAt P f_brickyardlaw13_wide 3 [0, 3, 4] [Value.slice p1 m2 m3, Value.int IntKind.i64 n4, Value.int IntKind.i64 (IntKind.wrap IntKind.i64
  (n5 + 1))] h Q)) : unitAt P f_brickyardlaw13_wide 7 [0, 3, 4, 5] [Value.slice p1 m2 m3, Value.int IntKind.i64 n4, Value.int IntKind.i64 n5, Value.int IntKind.i64 n6] h Q := unit_ok (n := 400)
  (ann := annOf [(3, [0, 3, 4]), (7, [0, 3, 4, 5])]) (Eq.mp (by kernel_rfl) H)
theorem r_brickyardlaw13_great {p1 : Option Addr} {m2 : Nat} {m3 : Nat} {h : AW} {Q : Value → AW → Prop} (H : EvQ P f_brickyardlaw13_weight [Value.slice p1 m2 m3, Value.int IntKind.i64 262144, Value.int IntKind.i64
  0] h fun v4 h5 => vInt IntKind.i64 v4 fun n6 => Q (Value.bool (decide (n6 ≥ 262144))) h5) : EvQ P f_brickyardlaw13_great [Value.slice p1 m2 m3] h Q := fn_ok (n := 400) (ann := annOf []) (Eq.mp (by
  kernel_rfl) H)
theorem r_brickyardlaw13_weight {p1 : Option Addr} {m2 : Nat} {m3 : Nat} {n4 : Int} {n5 : Int} {h : AW} {Q : Value → AW → Prop} (H : unitAt P f_brickyardlaw13_weight 3 [0, 1, 2, 7, 8] [Value.slice p1 m2 m3, Value.int
  IntKind.i64 n4, Value.int IntKind.i64 n5, Value.int IntKind.i64 0, Value.int IntKind.i64 0] h Q) : EvQ P f_brickyardlaw13_weight [Value.slice p1 m2 m3, Value.int IntKind.i64 n4, Value.int
  IntKind.i64 n5] h Q := fn_ok (n := 400) (ann := annOf [(3, [0, 1, 2, 7, 8]), (7, [0, 1, 2, 7, 8, 9])]) (Eq.mp (by kernel_rfl) H)
theorem r_brickyardlaw13_weight_3 {p1 : Option Addr} {m2 : Nat} {m3 : Nat} {n4 : Int} {n5 : Int} {n6 : Int} {n7 : Int} {h : AW} {Q : Value → AW → Prop} (H : bC (decide (n7 < (↑m2 : Int))) (bC
  (decide (n6 < n4)) (unitAt P f_brickyardlaw13_weight 7 [0, 1, 2, 7, 8, 9] [Value.slice p1 m2 m3, Value.int IntKind.i64 n4, Value.int IntKind.i64 n5, Value.int IntKind.i64 (IntKind.wrap IntKind.i64
  (n6 + 1)), Value.int IntKind.i64 n7, Value.int IntKind.i64 0] h Q) (Q (Value.int IntKind.i64 n6) h)) (Q (Value.int IntKind.i64 n6) h)) : unitAt P f_brickyardlaw13_weight 3 [0, 1, 2, 7, 8]
  [Value.slice p1 m2 m3, Value.int IntKind.i64 n4, Value.int IntKind.i64 n5, Value.int IntKind.i64 n6, Value.int IntKind.i64 n7] h Q := unit_ok (n := 400) (ann := annOf [(3, [0, 1,
  2, 7, 8]), (7, [0, 1, 2, 7, 8, 9])]) (Eq.mp (by kernel_rfl) H)
theorem r_brickyardlaw13_weight_7 {p1 : Option Addr} {m2 : Nat} {m3 : Nat} {n4 : Int} {n5 : Int} {n6 : Int} {n7 : Int} {n8 : Int} {h : AW} {Q : Value → AW → Prop} (H : aP p1 fun m9 m10 => oB
  (natIdx n7 m2) fun m11 => oB (AW.rd h m9 (m10 + m11 * 4 + 1)) fun v12 => vSl v12 fun p13 m14 m15 => bC (decide (n8 < (↑m14 : Int))) (bC (decide (n6 < n4)) (aP p1 fun m16 m17 =>
  oB (natIdx n7 m2) fun m18 => oB (AW.rd h m16 (m17 + m18 * 4 + 1)) fun v19 => vSl v19 fun p20 m21 m22 => aP p20 fun m23 m24 => oB (natIdx n8 m21) fun m25 => oB (AW.rd h m23 (m24 +
  m25 * 1)) fun v26 => vStr v26 fun s27 => unitAt P f_brickyardlaw13_weight 7 [0, 1, 2, 7, 8, 9] [Value.slice p1 m2 m3, Value.int IntKind.i64 n4, Value.int IntKind.i64 n5, Value.int IntKind.i64
  (IntKind.wrap IntKind.i64 (n6 + IntKind.wrap IntKind.i64 (1 + (↑(ByteArray.size s27) : Int)))), Value.int IntKind.i64 n7, Value.int IntKind.i64 (IntKind.wrap IntKind.i64 (n8 +
  1))] h Q) (bC (decide (n5 > 60)) (Q (Value.int IntKind.i64 n4) h) (aP p1 fun m28 m29 => oB (natIdx n7 m2) fun m30 => oB (AW.rd h m28 (m29 + m30 * 4 + 3)) fun v31 => vSl v31 fun
  p32 m33 m34 => EvQ P f_brickyardlaw13_weight [Value.slice p32 m33 m34, Value.int IntKind.i64 (IntKind.wrap IntKind.i64 (n4 - n6)), Value.int IntKind.i64 (IntKind.wrap IntKind.i64 (n5 + 1))] h fun
  v35 h36 => vInt IntKind.i64 v35 fun n37 => unitAt P f_brickyardlaw13_weight 3 [0, 1, 2, 7, 8] [Value.slice p1 m2 m3, Value.int IntKind.i64 n4, Value.int IntKind.i64 n5, Value.int IntKind.i64
  (IntKind.wrap IntKind.i64 (n6 + n37)), Value.int IntKind.i64 (IntKind.wrap IntKind.i64 (n7 + 1))] h36 Q))) (bC (decide (n5 > 60)) (Q (Value.int IntKind.i64 n4) h) (aP p1 fun m38
  m39 => oB (natIdx n7 m2) fun m40 => oB (AW.rd h m38 (m39 + m40 * 4 + 3)) fun v41 => vSl v41 fun p42 m43 m44 => EvQ P f_brickyardlaw13_weight [Value.slice p42 m43 m44, Value.int IntKind.i64
  (IntKind.wrap IntKind.i64 (n4 - n6)), Value.int IntKind.i64 (IntKind.wrap IntKind.i64 (n5 + 1))] h fun v45 h46 => vInt IntKind.i64 v45 fun n47 => unitAt P f_brickyardlaw13_weight 3 [0, 1, 2, 7, 8]
  [Value.slice p1 m2 m3, Value.int IntKind.i64 n4, Value.int IntKind.i64 n5, Value.int IntKind.i64 (IntKind.wrap IntKind.i64 (n6 + n47)), Value.int IntKind.i64 (IntKind.wrap
  IntKind.i64 (n7 + 1))] h46 Q))) : unitAt P f_brickyardlaw13_weight 7 [0, 1, 2, 7, 8, 9] [Value.slice p1 m2 m3, Value.int IntKind.i64 n4, Value.int IntKind.i64 n5, Value.int IntKind.i64 n6,
  Value.int IntKind.i64 n7, Value.int IntKind.i64 n8] h Q := unit_ok (n := 400) (ann := annOf [(3, [0, 1, 2, 7, 8]), (7, [0, 1, 2, 7, 8, 9])]) (Eq.mp (by kernel_rfl) H)
end Go.Proofs.YtgdkekdedgkglaaDoor
end

section
/- Kinds, errors and limits, at them and one past them: the law's walk. -/
namespace Go.Proofs.YtgdkekdedgkglaaDoor
open Go.Abs Go.Abs.Fo
set_option maxRecDepth 100000
attribute [local irreducible] unitAt EvQ
variable {h : AW} {μ : Paint} {ρ : Store} {Q : Value → AW → Prop}
abbrev w1 : Str := ⟨#[49]⟩
abbrev w2 : Str := ⟨#[50]⟩
abbrev w1000 : Str := ⟨#[49, 48, 48, 48]⟩
abbrev w1001 : Str := ⟨#[49, 48, 48, 49]⟩
abbrev w00 : Str := ⟨#[48, 48]⟩
def LM : List Line := List.replicate 256 [wUpper]
def LD : List Line := List.replicate 8 [wRepeat, w1] ++ List.replicate 8 [wEnd]
/-- Numbers are of digits alone. -/
def okL (L : List Line) : Bool := L.all fun l => match l with
  | [w, s] => decide (opOf w ≠ 10) || (decide (1 ≤ s.size) && decide (s.size < 19) && (numL s.data.toList 0).isSome)
  | _ => true
theorem okL_G {ps : List Wds} (h : okL (ps.map Wds.x) = true) : ∀ p, p ∈ ps → ∀ w s, p.x = [w, s] → opOf w = 10 → Digs s := by
  intro p hp w s e h10
  have := List.all_eq_true.1 h _ (List.mem_map_of_mem hp)
  rw [e] at this
  simp only [h10, ne_eq, not_true, decide_false, Bool.false_or, Bool.and_eq_true, decide_eq_true_eq] at this
  exact ⟨this.1.1, this.1.2, Option.isSome_iff_exists.1 this.2⟩
theorem M1 : (parseM LM).1.len = 256 ∧ (parseM LM).2 = (0, 0) := by decide +kernel
theorem M2 : (parseM (LM ++ [[wUpper]])).2 = (3, 256) := by decide +kernel
theorem M3 : (parseM LD).1.deep = 8 ∧ (parseM LD).1.size = 8 ∧ (parseM LD).2 = (0, 0) := by decide +kernel
theorem M4 : (parseM ([[wRepeat, w1]] ++ (LD ++ [[wEnd]]))).2 = (132, 8) := by decide +kernel
theorem M5 : (parseM [[wRepeat, w1000], [wEnd]]).2 = (0, 0) := by decide +kernel
theorem M6 : (parseM [[wRepeat, w1001], [wEnd]]).2 = (130, 0) := by decide +kernel
theorem M7 : (parseM [[wRepeat, w00], [wEnd]]).2 = (130, 0) := by decide +kernel
theorem M8 : (parseM [[wRepeat, w2]]).2 = (131, 1) := by decide +kernel
theorem K1 : wideM LM = false ∧ okL LM = true := by decide +kernel
theorem K2 : wideM (LM ++ [[wUpper]]) = false ∧ okL (LM ++ [[wUpper]]) = true := by decide +kernel
theorem K3 : wideM LD = false ∧ okL LD = true := by decide +kernel
theorem K4 : wideM ([[wRepeat, w1]] ++ (LD ++ [[wEnd]])) = false ∧ okL ([[wRepeat, w1]] ++ (LD ++ [[wEnd]])) = true := by decide +kernel
theorem K5 : wideM [[wRepeat, w1000], [wEnd]] = false ∧ okL [[wRepeat, w1000], [wEnd]] = true := by decide +kernel
theorem K6 : wideM [[wRepeat, w1001], [wEnd]] = false ∧ okL [[wRepeat, w1001], [wEnd]] = true := by decide +kernel
theorem K7 : wideM [[wRepeat, w00], [wEnd]] = false ∧ okL [[wRepeat, w00], [wEnd]] = true := by decide +kernel
theorem K8 : wideM [[wRepeat, w2]] = false ∧ okL [[wRepeat, w2]] = true := by decide +kernel
/-- Two lines, laid down. -/
theorem lit2 (O : Own h μ ρ) (x y : List Str) : ∃ μ' ρ', Own (AW.addVar (AW.addVar (AW.addVar h (strs x)) (strs y)) [.slice (some ⟨AW.next h, 0, none⟩) x.length x.length, .slice (some ⟨AW.next (AW.addVar h (strs x)), 0, none⟩) y.length y.length]) μ' ρ' ∧ Fra [] ρ ρ' ∧
    Lns ρ' [⟨some ⟨AW.next h, 0, none⟩, x.length, x⟩, ⟨some ⟨AW.next (AW.addVar h (strs x)), 0, none⟩, y.length, y⟩] (some ⟨AW.next (AW.addVar (AW.addVar h (strs x)) (strs y)), 0, none⟩) := by
  obtain ⟨μ1, ρ1, c1, O1, W1, hc1⟩ := w_block O p00 (strs x) (n := x.length) (sz := 1) (by simp) allOne_strs
  obtain ⟨μ2, ρ2, c2, O2, W2, hc2⟩ := w_block O1 W1 (strs y) (n := y.length) (sz := 1) (by simp) allOne_strs
  obtain ⟨μ3, ρ3, c3, O3, W3, hc3⟩ := w_block O2 W2 [.slice (some ⟨AW.next h, 0, none⟩) x.length x.length, .slice (some ⟨AW.next (AW.addVar h (strs x)), 0, none⟩) y.length y.length] (n := 2) (sz := 1) rfl rfl
  refine ⟨μ3, ρ3, O3, W3.fra0 fun c hc => ?_, .inr (Rd.of_sl O3 (by simp) (W3.at_ 0 _ _ rfl rfl)), fun p hp => ?_, fun p hp => ?_⟩
  · simp at hc; rcases hc with rfl | rfl | rfl <;> assumption
  · simp only [List.mem_cons, List.not_mem_nil, or_false] at hp
    rcases hp with rfl | rfl
    · exact .inr (Rd.of_sl O3 (by simp) (W3.at_ 2 _ _ rfl rfl))
    · exact .inr (Rd.of_sl O3 (by simp) (W3.at_ 1 _ _ rfl rfl))
  · simp only [List.mem_cons, List.not_mem_nil, or_false] at hp
    rcases hp with rfl | rfl <;> exact Nat.le_refl _
theorem lit1 (O : Own h μ ρ) (x : List Str) : ∃ μ' ρ', Own (AW.addVar (AW.addVar h (strs x)) [.slice (some ⟨AW.next h, 0, none⟩) x.length x.length]) μ' ρ' ∧ Fra [] ρ ρ' ∧ Lns ρ' [⟨some ⟨AW.next h, 0, none⟩, x.length, x⟩] (some ⟨AW.next (AW.addVar h (strs x)), 0, none⟩) := by
  obtain ⟨μ1, ρ1, c1, O1, W1, hc1⟩ := w_block O p00 (strs x) (n := x.length) (sz := 1) (by simp) allOne_strs
  obtain ⟨μ3, ρ3, c3, O3, W3, hc3⟩ := w_block O1 W1 [.slice (some ⟨AW.next h, 0, none⟩) x.length x.length] (n := 1) (sz := 1) rfl rfl
  refine ⟨μ3, ρ3, O3, W3.fra0 fun c hc => ?_, .inr (Rd.of_sl O3 (by simp) (W3.at_ 0 _ _ rfl rfl)), fun p hp => ?_, fun p hp => ?_⟩
  · simp at hc; rcases hc with rfl | rfl <;> assumption
  · simp only [List.mem_cons, List.not_mem_nil, or_false] at hp
    subst hp
    exact .inr (Rd.of_sl O3 (by simp) (W3.at_ 1 _ _ rfl rfl))
  · simp only [List.mem_cons, List.not_mem_nil, or_false] at hp
    subst hp; exact Nat.le_refl _
theorem rep_snoc {α : Type} (a : α) (k : Nat) : List.replicate k a ++ [a] = List.replicate (k + 1) a := by rw [List.replicate_succ']
theorem names_many {ρ0 : Store} {cM cD cm : Nat}
    (fin : ∀ {h : AW} {μ : Paint} {ρ : Store} {ma : Option Addr} {mc : Nat} {psM : List Wds} {vs : List (Option Addr × Nat × Nat × List Value)}, Own h μ ρ → Pcs ρ0 ρ [cM, cD, cm] [.sl ma mc 1 (psM.map Wds.cell), .sl none 0 1 (([] : List Wds).map Wds.cell), .many vs] → psM.map Wds.x = LM → Built vs psM →
      unitAt P f_brickyardlaw13_ActionNames 9 [1, 2, 4] [.slice ma 256 mc, .slice none 0 0, .int .i64 0] h Q) :
    ∀ (d k : Nat) {h : AW} {μ : Paint} {ρ : Store} {ma : Option Addr} {mc : Nat} {psM : List Wds} {vs : List (Option Addr × Nat × Nat × List Value)}, 256 - k = d → k ≤ 256 → Own h μ ρ → Pcs ρ0 ρ [cM, cD, cm] [.sl ma mc 1 (psM.map Wds.cell), .sl none 0 1 (([] : List Wds).map Wds.cell), .many vs] → psM.map Wds.x = List.replicate k [wUpper] → Built vs psM →
      unitAt P f_brickyardlaw13_ActionNames 5 [1, 2, 3] [.slice ma k mc, .slice none 0 0, .int .i64 (k : Int)] h Q := by
  intro d
  induction d with
  | zero =>
    intro k h μ ρ ma mc psM vs hd hk O W hx B
    have : k = 256 := by omega
    subst this
    refine r_brickyardlaw13_ActionNames_5 ?_
    rw [show decide (((256 : Nat) : Int) < 256) = false from rfl]
    simp only [oB_some, bC_true, bC_false, vInt_int, vBool_bool, vStr_string, vPtr_pointer, vSl_slice, vMap_map, vFun_func, vAgg_agg, vTup_tuple, vIfc_nil, vIfc_iface, lC_cons, lN_nil, aP_some, shO_none, shO_some, Option.isNone_none, Option.isNone_some, Bool.not_true, Bool.not_false]
    exact fin O W hx B
  | succ d ih =>
    intro k h μ ρ ma mc psM vs hd hk O W hx B
    have hl : psM.length = k := by have := congrArg List.length hx; simpa using this
    subst hl
    refine r_brickyardlaw13_ActionNames_5 ?_
    rw [show decide ((psM.length : Int) < 256) = true from decide_eq_true (by omega)]
    simp only [oB_some, bC_true, bC_false, vInt_int, vBool_bool, vStr_string, vPtr_pointer, vSl_slice, vMap_map, vFun_func, vAgg_agg, vTup_tuple, vIfc_nil, vIfc_iface, lC_cons, lN_nil, aP_some, shO_none, shO_some, Option.isNone_none, Option.isNone_some, Bool.not_true, Bool.not_false]
    refine app_line O W 0 2 (by omega) rfl rfl [wUpper] (by omega) fun h2 μ2 ρ2 oa oc p hp1 hp2 O2 W2 => ?_
    simp only [oB_some, bC_true, bC_false, vInt_int, vBool_bool, vStr_string, vPtr_pointer, vSl_slice, vMap_map, vFun_func, vAgg_agg, vTup_tuple, vIfc_nil, vIfc_iface, lC_cons, lN_nil, aP_some, shO_none, shO_some, Option.isNone_none, Option.isNone_some, Bool.not_true, Bool.not_false]
    rw [wrapS (by omega)]
    exact ih (psM.length + 1) (by omega) (by omega) O2 W2 (by rw [List.map_append, hx, ← rep_snoc]; simp [hp1]) (B.snoc (by rw [hp1, hp2]; exact Nat.le_refl _))
theorem names_deep {ρ0 : Store} {cM cD cm : Nat} {ma : Option Addr} {mc : Nat} {psM : List Wds} (hM : psM.length = 256)
    (fin : ∀ {h : AW} {μ : Paint} {ρ : Store} {da : Option Addr} {dc : Nat} {psD : List Wds} {vs : List (Option Addr × Nat × Nat × List Value)}, Own h μ ρ → Pcs ρ0 ρ [cM, cD, cm] [.sl ma mc 1 (psM.map Wds.cell), .sl da dc 1 (psD.map Wds.cell), .many vs] → psD.map Wds.x = List.replicate 8 [wRepeat, w1] → Built vs psM → Built vs psD →
      unitAt P f_brickyardlaw13_ActionNames 13 [1, 2, 5] [.slice ma 256 mc, .slice da 8 dc, .int .i64 0] h Q) :
    ∀ (d k : Nat) {h : AW} {μ : Paint} {ρ : Store} {da : Option Addr} {dc : Nat} {psD : List Wds} {vs : List (Option Addr × Nat × Nat × List Value)}, 8 - k = d → k ≤ 8 → Own h μ ρ → Pcs ρ0 ρ [cM, cD, cm] [.sl ma mc 1 (psM.map Wds.cell), .sl da dc 1 (psD.map Wds.cell), .many vs] → psD.map Wds.x = List.replicate k [wRepeat, w1] → Built vs psM → Built vs psD →
      unitAt P f_brickyardlaw13_ActionNames 9 [1, 2, 4] [.slice ma 256 mc, .slice da k dc, .int .i64 (k : Int)] h Q := by
  intro d
  induction d with
  | zero =>
    intro k h μ ρ da dc psD vs hd hk O W hx B C
    have : k = 8 := by omega
    subst this
    refine r_brickyardlaw13_ActionNames_9 ?_
    rw [show decide (((8 : Nat) : Int) < 8) = false from rfl]
    simp only [oB_some, bC_true, bC_false, vInt_int, vBool_bool, vStr_string, vPtr_pointer, vSl_slice, vMap_map, vFun_func, vAgg_agg, vTup_tuple, vIfc_nil, vIfc_iface, lC_cons, lN_nil, aP_some, shO_none, shO_some, Option.isNone_none, Option.isNone_some, Bool.not_true, Bool.not_false]
    exact fin O W hx B C
  | succ d ih =>
    intro k h μ ρ da dc psD vs hd hk O W hx B C
    have hl : psD.length = k := by have := congrArg List.length hx; simpa using this
    subst hl
    refine r_brickyardlaw13_ActionNames_9 ?_
    rw [show decide ((psD.length : Int) < 8) = true from decide_eq_true (by omega)]
    simp only [oB_some, bC_true, bC_false, vInt_int, vBool_bool, vStr_string, vPtr_pointer, vSl_slice, vMap_map, vFun_func, vAgg_agg, vTup_tuple, vIfc_nil, vIfc_iface, lC_cons, lN_nil, aP_some, shO_none, shO_some, Option.isNone_none, Option.isNone_some, Bool.not_true, Bool.not_false]
    refine app_line O W 1 2 (by omega) rfl rfl [wRepeat, w1] (by omega) fun h2 μ2 ρ2 oa oc p hp1 hp2 O2 W2 => ?_
    simp only [oB_some, bC_true, bC_false, vInt_int, vBool_bool, vStr_string, vPtr_pointer, vSl_slice, vMap_map, vFun_func, vAgg_agg, vTup_tuple, vIfc_nil, vIfc_iface, lC_cons, lN_nil, aP_some, shO_none, shO_some, Option.isNone_none, Option.isNone_some, Bool.not_true, Bool.not_false]
    rw [wrapS (by omega)]
    exact ih (psD.length + 1) (by omega) (by omega) O2 W2 (by rw [List.map_append, hx, ← rep_snoc]; simp [hp1]) (B.more fun x hx => List.mem_cons_of_mem _ hx) (C.snoc (by rw [hp1, hp2]; exact Nat.le_refl _))
theorem names_end {ρ0 : Store} {cM cD cm : Nat} {ma : Option Addr} {mc : Nat} {psM : List Wds} (hM : psM.length = 256)
    (fin : ∀ {h : AW} {μ : Paint} {ρ : Store} {da : Option Addr} {dc : Nat} {psD : List Wds} {vs : List (Option Addr × Nat × Nat × List Value)}, Own h μ ρ → Pcs ρ0 ρ [cM, cD, cm] [.sl ma mc 1 (psM.map Wds.cell), .sl da dc 1 (psD.map Wds.cell), .many vs] → psD.map Wds.x = LD → Built vs psM → Built vs psD →
      unitAt P f_brickyardlaw13_ActionNames 13 [1, 2, 5] [.slice ma 256 mc, .slice da 16 dc, .int .i64 8] h Q) :
    ∀ (d k : Nat) {h : AW} {μ : Paint} {ρ : Store} {da : Option Addr} {dc : Nat} {psD : List Wds} {vs : List (Option Addr × Nat × Nat × List Value)}, 8 - k = d → k ≤ 8 → Own h μ ρ → Pcs ρ0 ρ [cM, cD, cm] [.sl ma mc 1 (psM.map Wds.cell), .sl da dc 1 (psD.map Wds.cell), .many vs] → psD.map Wds.x = List.replicate 8 [wRepeat, w1] ++ List.replicate k [wEnd] → Built vs psM → Built vs psD →
      unitAt P f_brickyardlaw13_ActionNames 13 [1, 2, 5] [.slice ma 256 mc, .slice da psD.length dc, .int .i64 (k : Int)] h Q := by
  intro d
  induction d with
  | zero =>
    intro k h μ ρ da dc psD vs hd hk O W hx B C
    have : k = 8 := by omega
    subst this
    have hl : psD.length = 16 := by have := congrArg List.length hx; simpa using this
    rw [hl]
    exact fin O W hx B C
  | succ d ih =>
    intro k h μ ρ da dc psD vs hd hk O W hx B C
    have hl : psD.length = 8 + k := by have := congrArg List.length hx; rw [List.length_map, List.length_append, List.length_replicate, List.length_replicate] at this; exact this
    refine r_brickyardlaw13_ActionNames_13 ?_
    rw [show decide ((k : Int) < 8) = true from decide_eq_true (by omega)]
    simp only [oB_some, bC_true, bC_false, vInt_int, vBool_bool, vStr_string, vPtr_pointer, vSl_slice, vMap_map, vFun_func, vAgg_agg, vTup_tuple, vIfc_nil, vIfc_iface, lC_cons, lN_nil, aP_some, shO_none, shO_some, Option.isNone_none, Option.isNone_some, Bool.not_true, Bool.not_false]
    refine app_line O W 1 2 (by omega) rfl rfl [wEnd] (by omega) fun h2 μ2 ρ2 oa oc p hp1 hp2 O2 W2 => ?_
    simp only [oB_some, bC_true, bC_false, vInt_int, vBool_bool, vStr_string, vPtr_pointer, vSl_slice, vMap_map, vFun_func, vAgg_agg, vTup_tuple, vIfc_nil, vIfc_iface, lC_cons, lN_nil, aP_some, shO_none, shO_some, Option.isNone_none, Option.isNone_some, Bool.not_true, Bool.not_false]
    rw [wrapS (by omega)]
    have := ih (k + 1) (by omega) (by omega) O2 W2 (by rw [List.map_append, hx, ← rep_snoc [wEnd] k, List.append_assoc]; simp only [List.map_cons, List.map_nil, hp1]) (B.more fun x hx => List.mem_cons_of_mem _ hx) (C.snoc (by rw [hp1, hp2]; exact Nat.le_refl _))
    rw [List.length_append] at this
    exact this
theorem names_fin {ρ0 : Store} {cM cD cm : Nat} (T : Vw ρ0 [] (some ⟨2, 0, none⟩) pow10) (hfr : ∀ c, c ∈ [cM, cD, cm] → ρ0 c = none) (hq : ∀ h', Q (.bool true) h') {h : AW} {μ : Paint} {ρ : Store} {ma da : Option Addr} {mc dc : Nat} {psM psD : List Wds} {vs : List (Option Addr × Nat × Nat × List Value)}
    (O : Own h μ ρ) (W : Pcs ρ0 ρ [cM, cD, cm] [.sl ma mc 1 (psM.map Wds.cell), .sl da dc 1 (psD.map Wds.cell), .many vs]) (hM : psM.map Wds.x = LM) (hD : psD.map Wds.x = LD) (B : Built vs psM) (C : Built vs psD) :
    unitAt P f_brickyardlaw13_ActionNames 13 [1, 2, 5] [.slice ma 256 mc, .slice da 16 dc, .int .i64 8] h Q := by
  have lM : psM.length = 256 := by have := congrArg List.length hM; rw [List.length_map] at this; exact this
  have lD : psD.length = 16 := by have := congrArg List.length hD; rw [List.length_map] at this; exact this
  have TT : ∀ {ρ : Store}, Fra [] ρ0 ρ → Tbs Digs ρ := fun F => tbs_digs (T.keep F)
  refine r_brickyardlaw13_ActionNames_13 ?_
  rw [show decide ((8 : Int) < 8) = false from rfl]
  simp only [oB_some, bC_true, bC_false, vInt_int, vBool_bool, vStr_string, vPtr_pointer, vSl_slice, vMap_map, vFun_func, vAgg_agg, vTup_tuple, vIfc_nil, vIfc_iface, lC_cons, lN_nil, aP_some, shO_none, shO_some, Option.isNone_none, Option.isNone_some, Bool.not_true, Bool.not_false]
  have F0 : Fra [] ρ0 ρ := W.fra0 hfr
  rw [← lM]
  refine parse_spot O (TT F0) (B.lns O (W.at_ 0 _ _ rfl rfl) (W.at_ 2 _ _ rfl rfl)) (wide_not (by rw [hM]; exact K1.1)) (okL_G (by rw [hM]; exact K1.2)) W fun h1 h2 μ2 ρ2 s1 co1 cm1 oa1 oc1 cells1 vs1 O2 W2 F2 hs1 hco1 hcm1 L1 => ?_
  rw [hM]
  rw [hM, M1.2] at W2
  have W2 := (W2.tail2 hco1).tail2 hcm1
  have F2 := F0.trans F2
  rw [M1.1]
  -- one line more
  refine app_line O2 W2 1 3 (by omega) rfl rfl [wUpper] (by omega) fun h3 μ3 ρ3 ma' mc' p hp1 hp2 O3 W3 => ?_
  simp only [oB_some, bC_true, bC_false, vInt_int, vBool_bool, vStr_string, vPtr_pointer, vSl_slice, vMap_map, vFun_func, vAgg_agg, vTup_tuple, vIfc_nil, vIfc_iface, lC_cons, lN_nil, aP_some, shO_none, shO_some, Option.isNone_none, Option.isNone_some, Bool.not_true, Bool.not_false]
  have F3 : Fra [] ρ0 ρ3 := W3.fra0 fun c hc => by
    rcases List.mem_cons.1 hc with rfl | hc
    · exact hs1
    · exact hfr c hc
  have B3 := B.snoc (p := p) (by rw [hp1, hp2]; exact Nat.le_refl _)
  have C3 := C.more (ws := (p.a, p.cap, 1, strs p.x) :: vs) fun x hx => List.mem_cons_of_mem _ hx
  have hM3 : (psM ++ [p]).map Wds.x = LM ++ [[wUpper]] := by rw [List.map_append, hM]; simp only [List.map_cons, List.map_nil, hp1]
  rw [show psM.length + 1 = (psM ++ [p]).length from by simp]
  refine parse_spot O3 (TT F3) (B3.lns O3 (W3.at_ 1 _ _ rfl rfl) (W3.at_ 3 _ _ rfl rfl)) (wide_not (by rw [hM3]; exact K2.1)) (okL_G (by rw [hM3]; exact K2.2)) W3 fun h4 h5 μ5 ρ5 s2 co2 cm2 oa2 oc2 cells2 vs2 O5 W5 F5 hs2 hco2 hcm2 L2 => ?_
  rw [hM3, M2] at W5
  have W5 := (W5.tail2 hco2).tail2 hcm2
  have F5 := F3.trans F5
  have fr5 : ∀ c, c ∈ [s2, s1, cM, cD, cm] → ρ0 c = none := fun c hc => by
    rcases List.mem_cons.1 hc with rfl | hc
    · exact hs2
    rcases List.mem_cons.1 hc with rfl | hc
    · exact hs1
    · exact hfr c hc
  rw [← lD]
  refine parse_spot O5 (TT F5) (C3.lns O5 (W5.at_ 3 _ _ rfl rfl) (W5.at_ 4 _ _ rfl rfl)) (wide_not (by rw [hD]; exact K3.1)) (okL_G (by rw [hD]; exact K3.2)) W5 fun h6 h7 μ7 ρ7 s3 co3 cm3 oa3 oc3 cells3 vs3 O7 W7 F7 hs3 hco3 hcm3 L3 => ?_
  rw [hD] at L3 ⊢
  rw [hD, M3.2.2] at W7
  have F7 := F5.trans F7
  -- one depth more
  obtain ⟨μ8, ρ8, cw, O8, W8, hcw⟩ := w_block O7 W7 (strs [wRepeat, w1]) (n := 2) (sz := 1) rfl rfl
  obtain ⟨μ9, ρ9, O9, W9⟩ := w_into O8 W8 hcw 7 rfl
  obtain ⟨μ10, ρ10, cT, O10, W10, hcT⟩ := w_block O9 W9 ([(⟨some ⟨AW.next h7, 0, none⟩, 2, [wRepeat, w1]⟩ : Wds)].map Wds.cell) (n := 1) (sz := 1) rfl rfl
  refine app_line O10 W10 7 8 (by omega) rfl rfl [wEnd] (by omega) fun h8 μ11 ρ11 da' dc' pe hp3 hp4 O11 W11 => ?_
  simp only [oB_some, bC_true, bC_false, vInt_int, vBool_bool, vStr_string, vPtr_pointer, vSl_slice, vMap_map, vFun_func, vAgg_agg, vTup_tuple, vIfc_nil, vIfc_iface, lC_cons, lN_nil, aP_some, shO_none, shO_some, Option.isNone_none, Option.isNone_some, Bool.not_true, Bool.not_false]
  have B11 : Built ((pe.a, pe.cap, 1, strs pe.x) :: (some ⟨AW.next h7, 0, none⟩, 2, 1, strs [wRepeat, w1]) :: (p.a, p.cap, 1, strs p.x) :: vs) ([(⟨some ⟨AW.next h7, 0, none⟩, 2, [wRepeat, w1]⟩ : Wds)] ++ (psD ++ [pe])) := by
    refine Built.app (fun q hq => ?_) (Built.app (C.more fun x hx => by simp [hx]) fun q hq => ?_)
    · simp at hq; subst hq
      exact ⟨.inr ⟨2, 1, by simp⟩, Nat.le_refl _⟩
    · simp at hq; subst hq
      exact ⟨.inr ⟨q.cap, 1, by simp⟩, by rw [hp3, hp4]; exact Nat.le_refl _⟩
  refine w_app (P := P) O11 W11 0 (n := 1) (m := psD.length + 1) ti_ty_sl_sl_string ti_ty_sl_string (by decide) rfl rfl (w_sl O11 W11 7 rfl) (by simp) (allOne_cells _) (by omega) (by omega) fun ta tc h9 μ12 ρ12 O12 W12 => ?_
  simp only [oB_some, bC_true, bC_false, vInt_int, vBool_bool, vStr_string, vPtr_pointer, vSl_slice, vMap_map, vFun_func, vAgg_agg, vTup_tuple, vIfc_nil, vIfc_iface, lC_cons, lN_nil, aP_some, shO_none, shO_some, Option.isNone_none, Option.isNone_some, Bool.not_true, Bool.not_false]
  have hD4 : ([(⟨some ⟨AW.next h7, 0, none⟩, 2, [wRepeat, w1]⟩ : Wds)] ++ (psD ++ [pe])).map Wds.x = [[wRepeat, w1]] ++ (LD ++ [[wEnd]]) := by
    rw [List.map_append, List.map_append, hD]; simp only [List.map_cons, List.map_nil, hp3]
  rw [show 1 + (psD.length + 1) = ([(⟨some ⟨AW.next h7, 0, none⟩, 2, [wRepeat, w1]⟩ : Wds)] ++ (psD ++ [pe])).length from by simp; omega]
  have W12 : Pcs ρ0 ρ12 [cT, s3, co3, cm3, s2, s1, cM, cD, cm] [.sl ta tc 1 (([(⟨some ⟨AW.next h7, 0, none⟩, 2, [wRepeat, w1]⟩ : Wds)] ++ (psD ++ [pe])).map Wds.cell), .var (AW.next h6) [.int .i64 0, .int .i64 0], .sl oa3 oc3 4 cells3, .many vs3, .var (AW.next h4) [.int .i64 3, .int .i64 256], .var (AW.next h1) [.int .i64 0, .int .i64 0], .sl ma' mc' 1 ((psM ++ [p]).map Wds.cell), .sl da' dc' 1 ((psD ++ [pe]).map Wds.cell), .many ((pe.a, pe.cap, 1, strs pe.x) :: (some ⟨AW.next h7, 0, none⟩, 2, 1, strs [wRepeat, w1]) :: (p.a, p.cap, 1, strs p.x) :: vs)] := by
    refine W12.eq ?_
    rw [List.map_append (l₁ := [_])]
    rfl
  have fr12 : ∀ c, c ∈ [cT, s3, co3, cm3, s2, s1, cM, cD, cm] → ρ0 c = none := fun c hc => by
    rcases List.mem_cons.1 hc with rfl | hc
    · exact hcT
    rcases List.mem_cons.1 hc with rfl | hc
    · exact hs3
    rcases List.mem_cons.1 hc with rfl | hc
    · exact hco3
    rcases List.mem_cons.1 hc with rfl | hc
    · exact hcm3
    · exact fr5 c hc
  have F12 : Fra [] ρ0 ρ12 := W12.fra0 fr12
  refine parse_spot O12 (TT F12) (B11.lns O12 (W12.at_ 0 _ _ rfl rfl) (W12.at_ 8 _ _ rfl rfl)) (wide_not (by rw [hD4]; exact K4.1)) (okL_G (by rw [hD4]; exact K4.2)) W12 fun h10 h11 μ13 ρ13 s4 co4 cm4 oa4 oc4 cells4 vs4 O13 W13 F13 hs4 hco4 hcm4 L4 => ?_
  rw [hD4, M4] at W13
  have W13 := (W13.tail2 hco4).tail2 hcm4
  -- numbers
  obtain ⟨μ14, ρ14, O14, F14, X14⟩ := lit2 O13 [wRepeat, w1000] [wEnd]
  refine parse_spot O14 (TT ((F12.trans F13).trans F14)) X14 (wide_not K5.1) (okL_G K5.2) (W13.keep0 F14) fun h12 h13 μ15 ρ15 s5 co5 cm5 oa5 oc5 cells5 vs5 O15 W15 F15 hs5 hco5 hcm5 L5 => ?_
  rw [show (parseM ([(⟨some ⟨AW.next h11, 0, none⟩, [wRepeat, w1000].length, [wRepeat, w1000]⟩ : Wds), ⟨some ⟨AW.next (AW.addVar h11 (strs [wRepeat, w1000])), 0, none⟩, [wEnd].length, [wEnd]⟩].map Wds.x)).2 = (0, 0) from M5] at W15
  have W15 := (W15.tail2 hco5).tail2 hcm5
  have F15 := F14.trans F15
  obtain ⟨μ16, ρ16, O16, F16, X16⟩ := lit2 O15 [wRepeat, w1001] [wEnd]
  refine parse_spot O16 (TT (((F12.trans F13).trans F15).trans F16)) X16 (wide_not K6.1) (okL_G K6.2) (W15.keep0 F16) fun h14 h15 μ17 ρ17 s6 co6 cm6 oa6 oc6 cells6 vs6 O17 W17 F17 hs6 hco6 hcm6 L6 => ?_
  rw [show (parseM ([(⟨some ⟨AW.next h13, 0, none⟩, [wRepeat, w1001].length, [wRepeat, w1001]⟩ : Wds), ⟨some ⟨AW.next (AW.addVar h13 (strs [wRepeat, w1001])), 0, none⟩, [wEnd].length, [wEnd]⟩].map Wds.x)).2 = (130, 0) from M6] at W17
  have W17 := (W17.tail2 hco6).tail2 hcm6
  have F17 := (F15.trans F16).trans F17
  obtain ⟨μ18, ρ18, O18, F18, X18⟩ := lit2 O17 [wRepeat, w00] [wEnd]
  refine parse_spot O18 (TT (((F12.trans F13).trans F17).trans F18)) X18 (wide_not K7.1) (okL_G K7.2) (W17.keep0 F18) fun h16 h17 μ19 ρ19 s7 co7 cm7 oa7 oc7 cells7 vs7 O19 W19 F19 hs7 hco7 hcm7 L7 => ?_
  rw [show (parseM ([(⟨some ⟨AW.next h15, 0, none⟩, [wRepeat, w00].length, [wRepeat, w00]⟩ : Wds), ⟨some ⟨AW.next (AW.addVar h15 (strs [wRepeat, w00])), 0, none⟩, [wEnd].length, [wEnd]⟩].map Wds.x)).2 = (130, 0) from M7] at W19
  have W19 := (W19.tail2 hco7).tail2 hcm7
  have F19 := (F17.trans F18).trans F19
  obtain ⟨μ20, ρ20, O20, F20, X20⟩ := lit1 O19 [wRepeat, w2]
  refine parse_spot O20 (TT (((F12.trans F13).trans F19).trans F20)) X20 (wide_not K8.1) (okL_G K8.2) (W19.keep0 F20) fun h18 h19 μ21 ρ21 s8 co8 cm8 oa8 oc8 cells8 vs8 O21 W21 F21 hs8 hco8 hcm8 L8 => ?_
  rw [show (parseM ([(⟨some ⟨AW.next h17, 0, none⟩, [wRepeat, w2].length, [wRepeat, w2]⟩ : Wds)].map Wds.x)).2 = (131, 1) from M8] at W21
  have W21 := (W21.tail2 hco8).tail2 hcm8
  have F21 := (F19.trans F20).trans F21
  rw [show (((256 : Nat) : Int) == 256) = true from rfl]
  simp only [oB_some, bC_true, bC_false, vInt_int, vBool_bool, vStr_string, vPtr_pointer, vSl_slice, vMap_map, vFun_func, vAgg_agg, vTup_tuple, vIfc_nil, vIfc_iface, lC_cons, lN_nil, aP_some, shO_none, shO_some, Option.isNone_none, Option.isNone_some, Bool.not_true, Bool.not_false]
  have Y21 : Ly ρ21 (parseM LD).1 oa3 := Ly.of O21 (W21.at_ 7 _ _ rfl rfl) (W21.at_ 8 _ _ rfl rfl) L3
  repeat (first | refine ⟨rfl, ?_⟩ | refine ⟨trivial, ?_⟩ | simp only [oB_some, bC_true, bC_false, vInt_int, vBool_bool, vStr_string, vPtr_pointer, vSl_slice, vMap_map, vFun_func, vAgg_agg, vTup_tuple, vIfc_nil, vIfc_iface, lC_cons, lN_nil, aP_some, shO_none, shO_some, Option.isNone_none, Option.isNone_some, Bool.not_true, Bool.not_false] | refine w_rd (by assumption) (by assumption) 0 (by rfl) (by rfl) ?_ | refine w_rd (by assumption) (by assumption) 1 (by rfl) (by rfl) ?_ | refine w_rd (by assumption) (by assumption) 2 (by rfl) (by rfl) ?_ | refine w_rd (by assumption) (by assumption) 3 (by rfl) (by rfl) ?_ | refine w_rd (by assumption) (by assumption) 4 (by rfl) (by rfl) ?_ | refine w_rd (by assumption) (by assumption) 5 (by rfl) (by rfl) ?_ | refine w_rd (by assumption) (by assumption) 6 (by rfl) (by rfl) ?_ | refine w_rd (by assumption) (by assumption) 7 (by rfl) (by rfl) ?_ | refine w_rd (by assumption) (by assumption) 8 (by rfl) (by rfl) ?_ | refine w_rd (by assumption) (by assumption) 9 (by rfl) (by rfl) ?_ | refine w_rd (by assumption) (by assumption) 10 (by rfl) (by rfl) ?_ | refine w_wrL (by assumption) (by assumption) 0 (by rfl) (Nat.le_of_ble_eq_true (by rfl)) (by rfl) fun h ρz O W => ?_ | refine w_wrL (by assumption) (by assumption) 1 (by rfl) (Nat.le_of_ble_eq_true (by rfl)) (by rfl) fun h ρz O W => ?_ | refine w_wrL (by assumption) (by assumption) 2 (by rfl) (Nat.le_of_ble_eq_true (by rfl)) (by rfl) fun h ρz O W => ?_ | refine w_wrL (by assumption) (by assumption) 3 (by rfl) (Nat.le_of_ble_eq_true (by rfl)) (by rfl) fun h ρz O W => ?_ | refine w_wrL (by assumption) (by assumption) 4 (by rfl) (Nat.le_of_ble_eq_true (by rfl)) (by rfl) fun h ρz O W => ?_ | refine w_wrL (by assumption) (by assumption) 5 (by rfl) (Nat.le_of_ble_eq_true (by rfl)) (by rfl) fun h ρz O W => ?_ | refine w_wrL (by assumption) (by assumption) 6 (by rfl) (Nat.le_of_ble_eq_true (by rfl)) (by rfl) fun h ρz O W => ?_ | refine w_wrL (by assumption) (by assumption) 7 (by rfl) (Nat.le_of_ble_eq_true (by rfl)) (by rfl) fun h ρz O W => ?_ | refine w_wrL (by assumption) (by assumption) 8 (by rfl) (Nat.le_of_ble_eq_true (by rfl)) (by rfl) fun h ρz O W => ?_ | refine w_wrL (by assumption) (by assumption) 9 (by rfl) (Nat.le_of_ble_eq_true (by rfl)) (by rfl) fun h ρz O W => ?_ | refine w_wrL (by assumption) (by assumption) 10 (by rfl) (Nat.le_of_ble_eq_true (by rfl)) (by rfl) fun h ρz O W => ?_ | refine w_wr (by assumption) (by assumption) 0 (by rfl) (Nat.le_of_ble_eq_true (by rfl)) (by rfl) fun h ρz O W => ?_ | refine w_wr (by assumption) (by assumption) 1 (by rfl) (Nat.le_of_ble_eq_true (by rfl)) (by rfl) fun h ρz O W => ?_ | refine w_wr (by assumption) (by assumption) 2 (by rfl) (Nat.le_of_ble_eq_true (by rfl)) (by rfl) fun h ρz O W => ?_ | refine w_wr (by assumption) (by assumption) 3 (by rfl) (Nat.le_of_ble_eq_true (by rfl)) (by rfl) fun h ρz O W => ?_ | refine w_wr (by assumption) (by assumption) 4 (by rfl) (Nat.le_of_ble_eq_true (by rfl)) (by rfl) fun h ρz O W => ?_ | refine w_wr (by assumption) (by assumption) 5 (by rfl) (Nat.le_of_ble_eq_true (by rfl)) (by rfl) fun h ρz O W => ?_ | refine w_wr (by assumption) (by assumption) 6 (by rfl) (Nat.le_of_ble_eq_true (by rfl)) (by rfl) fun h ρz O W => ?_ | refine w_wr (by assumption) (by assumption) 7 (by rfl) (Nat.le_of_ble_eq_true (by rfl)) (by rfl) fun h ρz O W => ?_ | refine w_wr (by assumption) (by assumption) 8 (by rfl) (Nat.le_of_ble_eq_true (by rfl)) (by rfl) fun h ρz O W => ?_ | refine w_wr (by assumption) (by assumption) 9 (by rfl) (Nat.le_of_ble_eq_true (by rfl)) (by rfl) fun h ρz O W => ?_ | refine w_wr (by assumption) (by assumption) 10 (by rfl) (Nat.le_of_ble_eq_true (by rfl)) (by rfl) fun h ρz O W => ?_ | simp only [beq_self_eq_true, Bool.and_true, Bool.and_self])
  refine deep_ok O21 Y21 (by rw [M3.2.1]; omega) fun h20 μ22 ρ22 O22 F22 => ?_
  have W22 := W21.keep0 F22
  rw [M3.1]
  rw [show (((8 : Nat) : Int)) = 8 from rfl]
  repeat (first | refine ⟨rfl, ?_⟩ | refine ⟨trivial, ?_⟩ | simp only [oB_some, bC_true, bC_false, vInt_int, vBool_bool, vStr_string, vPtr_pointer, vSl_slice, vMap_map, vFun_func, vAgg_agg, vTup_tuple, vIfc_nil, vIfc_iface, lC_cons, lN_nil, aP_some, shO_none, shO_some, Option.isNone_none, Option.isNone_some, Bool.not_true, Bool.not_false] | refine w_rd (by assumption) (by assumption) 0 (by rfl) (by rfl) ?_ | refine w_rd (by assumption) (by assumption) 1 (by rfl) (by rfl) ?_ | refine w_rd (by assumption) (by assumption) 2 (by rfl) (by rfl) ?_ | refine w_rd (by assumption) (by assumption) 3 (by rfl) (by rfl) ?_ | refine w_rd (by assumption) (by assumption) 4 (by rfl) (by rfl) ?_ | refine w_rd (by assumption) (by assumption) 5 (by rfl) (by rfl) ?_ | refine w_rd (by assumption) (by assumption) 6 (by rfl) (by rfl) ?_ | refine w_rd (by assumption) (by assumption) 7 (by rfl) (by rfl) ?_ | refine w_rd (by assumption) (by assumption) 8 (by rfl) (by rfl) ?_ | refine w_rd (by assumption) (by assumption) 9 (by rfl) (by rfl) ?_ | refine w_rd (by assumption) (by assumption) 10 (by rfl) (by rfl) ?_ | refine w_wrL (by assumption) (by assumption) 0 (by rfl) (Nat.le_of_ble_eq_true (by rfl)) (by rfl) fun h ρz O W => ?_ | refine w_wrL (by assumption) (by assumption) 1 (by rfl) (Nat.le_of_ble_eq_true (by rfl)) (by rfl) fun h ρz O W => ?_ | refine w_wrL (by assumption) (by assumption) 2 (by rfl) (Nat.le_of_ble_eq_true (by rfl)) (by rfl) fun h ρz O W => ?_ | refine w_wrL (by assumption) (by assumption) 3 (by rfl) (Nat.le_of_ble_eq_true (by rfl)) (by rfl) fun h ρz O W => ?_ | refine w_wrL (by assumption) (by assumption) 4 (by rfl) (Nat.le_of_ble_eq_true (by rfl)) (by rfl) fun h ρz O W => ?_ | refine w_wrL (by assumption) (by assumption) 5 (by rfl) (Nat.le_of_ble_eq_true (by rfl)) (by rfl) fun h ρz O W => ?_ | refine w_wrL (by assumption) (by assumption) 6 (by rfl) (Nat.le_of_ble_eq_true (by rfl)) (by rfl) fun h ρz O W => ?_ | refine w_wrL (by assumption) (by assumption) 7 (by rfl) (Nat.le_of_ble_eq_true (by rfl)) (by rfl) fun h ρz O W => ?_ | refine w_wrL (by assumption) (by assumption) 8 (by rfl) (Nat.le_of_ble_eq_true (by rfl)) (by rfl) fun h ρz O W => ?_ | refine w_wrL (by assumption) (by assumption) 9 (by rfl) (Nat.le_of_ble_eq_true (by rfl)) (by rfl) fun h ρz O W => ?_ | refine w_wrL (by assumption) (by assumption) 10 (by rfl) (Nat.le_of_ble_eq_true (by rfl)) (by rfl) fun h ρz O W => ?_ | refine w_wr (by assumption) (by assumption) 0 (by rfl) (Nat.le_of_ble_eq_true (by rfl)) (by rfl) fun h ρz O W => ?_ | refine w_wr (by assumption) (by assumption) 1 (by rfl) (Nat.le_of_ble_eq_true (by rfl)) (by rfl) fun h ρz O W => ?_ | refine w_wr (by assumption) (by assumption) 2 (by rfl) (Nat.le_of_ble_eq_true (by rfl)) (by rfl) fun h ρz O W => ?_ | refine w_wr (by assumption) (by assumption) 3 (by rfl) (Nat.le_of_ble_eq_true (by rfl)) (by rfl) fun h ρz O W => ?_ | refine w_wr (by assumption) (by assumption) 4 (by rfl) (Nat.le_of_ble_eq_true (by rfl)) (by rfl) fun h ρz O W => ?_ | refine w_wr (by assumption) (by assumption) 5 (by rfl) (Nat.le_of_ble_eq_true (by rfl)) (by rfl) fun h ρz O W => ?_ | refine w_wr (by assumption) (by assumption) 6 (by rfl) (Nat.le_of_ble_eq_true (by rfl)) (by rfl) fun h ρz O W => ?_ | refine w_wr (by assumption) (by assumption) 7 (by rfl) (Nat.le_of_ble_eq_true (by rfl)) (by rfl) fun h ρz O W => ?_ | refine w_wr (by assumption) (by assumption) 8 (by rfl) (Nat.le_of_ble_eq_true (by rfl)) (by rfl) fun h ρz O W => ?_ | refine w_wr (by assumption) (by assumption) 9 (by rfl) (Nat.le_of_ble_eq_true (by rfl)) (by rfl) fun h ρz O W => ?_ | refine w_wr (by assumption) (by assumption) 10 (by rfl) (Nat.le_of_ble_eq_true (by rfl)) (by rfl) fun h ρz O W => ?_ | simp only [beq_self_eq_true, Bool.and_true, Bool.and_self])
  exact hq _
theorem actionNames_ok (O : Own h μ ρ) (T : Vw ρ [] (some ⟨2, 0, none⟩) pow10) (hq : ∀ h', Q (.bool true) h') : EvQ P f_brickyardlaw13_ActionNames [] h Q := by
  refine r_brickyardlaw13_ActionNames ?_
  refine works_ok O fun h1 μ1 ρ1 O1 F1 => ?_
  simp only [oB_some, bC_true, bC_false, vInt_int, vBool_bool, vStr_string, vPtr_pointer, vSl_slice, vMap_map, vFun_func, vAgg_agg, vTup_tuple, vIfc_nil, vIfc_iface, lC_cons, lN_nil, aP_some, shO_none, shO_some, Option.isNone_none, Option.isNone_some, Bool.not_true, Bool.not_false]
  obtain ⟨ρ2, cm, O2, W2, hcm⟩ := w_many O1 p00
  obtain ⟨ρ3, cD, O3, W3, hcD⟩ := w_nil O2 W2 1
  obtain ⟨ρ4, cM, O4, W4, hcM⟩ := w_nil O3 W3 1
  have fr : ∀ c, c ∈ [cM, cD, cm] → ρ1 c = none := fun c hc => by simp at hc; rcases hc with rfl | rfl | rfl <;> assumption
  refine names_many (fun O5 W5 hx5 B5 => ?_) 256 0 (psM := []) rfl (by omega) O4 W4 rfl Built.nil
  have lM := congrArg List.length hx5
  rw [List.length_map] at lM
  refine names_deep lM (fun O6 W6 hx6 B6 C6 => ?_) 8 0 (psD := []) rfl (by omega) O5 W5 rfl B5 Built.nil
  have lD := congrArg List.length hx6
  rw [List.length_map, List.length_replicate] at lD
  have := names_end (Q := Q) lM (fun O7 W7 hx7 B7 C7 => names_fin (T.keep F1) fr hq O7 W7 hx5 hx7 B7 C7) 8 0 rfl (by omega) O6 W6 (by rw [hx6]; simp) B6 C6
  rw [lD] at this
  exact this
end Go.Proofs.YtgdkekdedgkglaaDoor
end

section
/- What the rows of layer 13 share: types, a world for the witness. -/
open Go.RowKit
namespace Go.Proofs.YtgdkekdedgkglaaDoor
open Go.Abs Go.Abs.Fo Go.ChangeShapes Go.WideShapes
set_option maxRecDepth 100000
theorem own_knob : ownKnob Tryd.prog.godebug = none := by kernel_rfl
theorem st_types : StT Tryd.prog 39 46 3 26 9 #[⟨"Op", 3, 0, false, "", "", 0⟩, ⟨"Args", 26, 1, false, "", "", 8⟩, ⟨"N", 3, 2, false, "", "", 32⟩, ⟨"Body", 39, 3, false, "", "", 40⟩] :=
  ⟨by kernel_rfl, by kernel_rfl, by kernel_rfl, by kernel_rfl, by kernel_rfl, by kernel_rfl, by kernel_rfl, by kernel_rfl, by kernel_rfl, by kernel_rfl, of_decide_eq_true (by kernel_rfl), of_decide_eq_true (by kernel_rfl), ⟨_, rfl, rfl, rfl⟩, ⟨_, rfl, rfl, rfl⟩, ⟨_, rfl, rfl, rfl⟩, ⟨_, rfl, rfl, rfl⟩⟩
theorem ly_of {W : World} {f : F} {cells : List Value} {a : Option Addr} {vs ws : List (Option Addr × List Value)} (G : GoodV W ws) (hs : ∀ x, x ∈ vs → x ∈ ws) (V : Vin vs a cells) (L : Lies (Vin vs) f cells) : Ly (argStore ws) f a :=
  ⟨cells, (V.mono hs).vw G, L.mono fun _ _ x => (x.mono hs).vw G⟩
/-- A world for the witness: the tables and the errors hold what their initialisers lay. -/
noncomputable def lowB : Nat := (World.holding Tryd.prog default ⟨#[], #[], []⟩).heap.size
abbrev textRange : ByteArray := ⟨#[118, 97, 108, 117, 101, 32, 111, 117, 116, 32, 111, 102, 32, 114, 97, 110, 103, 101]⟩
abbrev textSyntax : ByteArray := ⟨#[105, 110, 118, 97, 108, 105, 100, 32, 115, 121, 110, 116, 97, 120]⟩
noncomputable def laidW (os : Os) : World :=
  let w0 := World.holding Tryd.prog os ⟨#[.cells #[.string textRange] 155, .cells #[.string textSyntax] 155], #[], []⟩
  { w0 with heap := ((putTab w0.heap [(4, Rows.laid_math_bits_deBruijn32tab), (5, Rows.laid_math_bits_deBruijn64tab), (2, Rows.laid_internal_strconv_uint64pow10)]).modify 1 fun
      | .cells _ t frozen => .cells #[.iface 153 (.pointer (some ⟨lowB, 0, none⟩))] t frozen
      | o => o).modify 0 fun
      | .cells _ t frozen => .cells #[.iface 153 (.pointer (some ⟨lowB + 1, 0, none⟩))] t frozen
      | o => o }
theorem laid_met {args : Array Value} (os : Os) : laidMet Tryd.prog Rows.actionSameRow.laid ((laidW os).forCall (fun _ _ => 0) ⟨#[], args, []⟩).memory :=
  laidMet_of_run' 8 (by kernel_rfl) (by kernel_rfl)
/-- The powers of ten, as the row lists them. -/
theorem pow_good {W : World} {rest : List (String × DataW Unit)} (h : laidMet Tryd.prog (("internal/strconv.uint64pow10", Rows.laid_internal_strconv_uint64pow10) :: rest) W) : GoodV W [(some ⟨2, 0, none⟩, pow10)] := by
  have ht : Lib.TabIs Tryd.prog W "internal/strconv.uint64pow10" .u64 [1, 10, 100, 1000, 10000, 100000, 1000000, 10000000, 100000000, 1000000000, 10000000000, 100000000000, 1000000000000, 10000000000000, 100000000000000, 1000000000000000, 10000000000000000, 100000000000000000, 1000000000000000000, 10000000000000000000] :=
    Lib.tabIs_of_head (g := 2) (t := 157) (e := 137) (n := 20) (by kernel_rfl) (by kernel_rfl) (by kernel_rfl) (by kernel_rfl) (by kernel_rfl) (by kernel_rfl) h
  have hg : Tryd.prog.globalNamed "internal/strconv.uint64pow10" = some 2 := by kernel_rfl
  intro a l hm
  simp at hm
  obtain ⟨rfl, rfl⟩ := hm
  refine ⟨2, 0, rfl, ?_, fun j hj => ?_⟩
  · have := cell_block (ht.cell hg 0 (by simp))
    simp only at this
    omega
  · have hc := ht.cell hg j (by simpa using hj)
    rw [Nat.zero_add]
    have := mir_rd hc (.int _ _)
    rw [this]
    have e : ∀ k : Fin 20, pow10[k.1]? = some (.int .u64 ([1, 10, 100, 1000, 10000, 100000, 1000000, 10000000, 100000000, 1000000000, 10000000000, 100000000000, 1000000000000, 10000000000000, 100000000000000, 1000000000000000, 10000000000000000, 100000000000000000, 1000000000000000000, 10000000000000000000].getD k.1 0)) := by
      intro k
      match k with
      | ⟨0, _⟩ | ⟨1, _⟩ | ⟨2, _⟩ | ⟨3, _⟩ | ⟨4, _⟩ | ⟨5, _⟩ | ⟨6, _⟩ | ⟨7, _⟩ | ⟨8, _⟩ | ⟨9, _⟩ | ⟨10, _⟩ | ⟨11, _⟩ | ⟨12, _⟩ | ⟨13, _⟩ | ⟨14, _⟩ | ⟨15, _⟩ | ⟨16, _⟩ | ⟨17, _⟩ | ⟨18, _⟩ | ⟨19, _⟩ => rfl
      | ⟨k + 20, hk⟩ => exact absurd hk (by omega)
    rw [e ⟨j, by simpa using hj⟩]
    rfl
end Go.Proofs.YtgdkekdedgkglaaDoor
end
