/- A deterministic heap for the model, proved sound, and walks of the program over it: part 10. No condition. -/
import Derived.Test.YtkbioibemcmanaaGreatDoorCa3
set_option linter.unusedVariables false
set_option linter.unusedSimpArgs false
set_option linter.unusedSectionVars false
section
/- Rules of walks, printed by a program of ours: group E14. -/
namespace Go.Proofs.YtkbioibemcmanaaGreatDoor.E
open Go.Abs
set_option maxRecDepth 100000
variable {h : AW} {Q : Value → AW → Prop}
set_option maxHeartbeats 4000000
attribute [local irreducible] kFn kUnit EvQ unitAt kOwn RunOwn
theorem r_c2 {m1 : Nat} {x2 : Array Value} {x3 : Array Value} {s4 : ByteArray} (H : EvQ P f_fv [.string s4] (AW.addVar h [iv 0, .string zS, iv 0, iv 0]) fun v5 h6 => vBool v5 fun b7 => bC (!b7) (oB (AW.wrL h6 (AW.next h) 0 [iv 2, .string s4, iv 0, iv 0]) fun h8 => rI h8 (AW.next h) 0 fun n10 => rS h8 (AW.next h) 1 fun s12 => rI h8 (AW.next h) 2 fun n14 => rI h8 (AW.next h) 3 fun n16 => Q (.tuple #[.pointer none, .agg #[iv n10, .string s12, iv n14, iv n16]]) h8) (EvQ P m1 (Array.toList x2 ++ .string s4 :: Array.toList x3) h6 fun v17 h18 => vTup v17 fun l19 => cS l19 fun s22 l21 => cB l21 fun b25 l24 => lN l24 (bC (!b25) (oB (AW.wrL h18 (AW.next h) 0 [iv 4, .string s4, iv 0, iv 0]) fun h26 => rI h26 (AW.next h) 0 fun n28 => rS h26 (AW.next h) 1 fun s30 => rI h26 (AW.next h) 2 fun n32 => rI h26 (AW.next h) 3 fun n34 => Q (.tuple #[.pointer none, .agg #[iv n28, .string s30, iv n32, iv n34]]) h26) (lw (AW.addMap h18) fun k2 => lw (AW.addMap k2) fun k3 => lw (AW.addVar k3 [.map (some (AW.next h18)), .map (some (AW.next k2)), .slice none 0 0, .slice none 0 0]) fun k4 => lw (AW.addMap k4) fun k5 => EvQ P f_ds [.pointer (some ⟨(AW.next k5), 0, none⟩), .string s4, .string s22] (AW.addVar k5 [.func (Fn.func m1) x2 x3, .pointer (some ⟨(AW.next k3), 0, none⟩), .map (some (AW.next k4)), iv 0, iv 0, .slice none 0 0, iv 0, .string zS, iv 0, iv 0]) fun v35 h36 => vBool v35 fun b37 => bC (!b37) (rI h36 (AW.next k5) 6 fun n39 => rS h36 (AW.next k5) 7 fun s41 => rI h36 (AW.next k5) 8 fun n43 => rI h36 (AW.next k5) 9 fun n45 => oB (AW.wrL h36 (AW.next h) 0 [iv n39, .string s41, iv n43, iv n45]) fun h46 => rI h46 (AW.next h) 0 fun n48 => rS h46 (AW.next h) 1 fun s50 => rI h46 (AW.next h) 2 fun n52 => rI h46 (AW.next h) 3 fun n54 => Q (.tuple #[.pointer none, .agg #[iv n48, .string s50, iv n52, iv n54]]) h46) (rP h36 (AW.next k5) 1 fun p56 => oB (AW.wrL h36 (AW.next h) 0 [iv 0, .string zS, iv 0, iv 0]) fun h57 => rI h57 (AW.next h) 0 fun n59 => rS h57 (AW.next h) 1 fun s61 => rI h57 (AW.next h) 2 fun n63 => rI h57 (AW.next h) 3 fun n65 => Q (.tuple #[.pointer p56, .agg #[iv n59, .string s61, iv n63, iv n65]]) h57))))) : EvQ P f_c2 [.func (Fn.func m1) x2 x3, .string s4] h Q := fo [] H (by kernel_rfl)
theorem r_eh {p1 : Option Addr} {s2 s3 : ByteArray} (H : EvQ P f_ec [.pointer p1, .slice (some ⟨(AW.next h), 0, none⟩) 2 2] (AW.addVar h [.string s2, .string s3]) fun v4 h5 => vInt .i64 v4 fun n6 => bC (n6 != 0) (Q (iv n6) h5) (jM p1 0 h5 fun p10 => oB (AW.mapL h5 p10) fun l11 => oB (Abs.look TypeDesc.string (.string s2) l11) fun p12 => vMap (Option.getD p12 (.map none)) fun p13 => oB (mapUpdV P h5 ty_graph_set (.map p13) (.string s3) (.bool true)) fun h14 => jM p1 1 h14 fun p18 => oB (AW.mapL h14 p18) fun l19 => oB (Abs.look TypeDesc.string (.string s3) l19) fun p20 => vMap (Option.getD p20 (.map none)) fun p21 => oB (mapUpdV P h14 ty_graph_set (.map p21) (.string s2) (.bool true)) fun h22 => Q (iv 0) h22)) : EvQ P f_eh [.pointer p1, .string s2, .string s3] h Q := fo [] H (by kernel_rfl)
theorem r_el {p1 : Option Addr} (H : EvQ P f_ez [.pointer p1] h fun v2 h3 => vTup v2 fun l4 => cS l4 fun s7 l6 => cI l6 fun n10 l9 => lN l9 (bC (n10 == 0) (EvQ P f_et [.pointer p1, iv 145, .string s7] h3 fun v11 h12 => vBool v11 fun b13 => Q (iv n10) h12) (Q (iv n10) h3))) : EvQ P f_el [.pointer p1] h Q := fo [] H (by kernel_rfl)
theorem r_it {s1 s2 : ByteArray} (H : EvQ P f_ix [.string s1, .string s2] h fun v3 h4 => vInt .i64 v3 fun n5 => bC (decide (n5 ≥ 0)) (oB (natBnd n5 (ByteArray.size s1)) fun m6 => oB (natBnd (IntKind.wrap .i64 (n5 + (↑(ByteArray.size s2) : Int))) (ByteArray.size s1)) fun m7 => Q (.tuple #[.string (bSub s1 0 m6), .string (bSub s1 m7 (ByteArray.size s1)), .bool true]) h4) (Q (.tuple #[.string s1, .string zS, .bool false]) h4)) : EvQ P f_it [.string s1, .string s2] h Q := fo [] H (by kernel_rfl)
theorem r_a1 {p1 : Option Addr} {m2 m3 : Nat} (H : EvQ P f_a2 [.slice p1 m2 m3] h fun v4 h5 => vBool v4 fun b6 => bC (!b6) (Q (.tuple #[.slice none 0 0, iv 2]) h5) (EvQ P f_ag [.slice p1 m2 m3] h5 fun v7 h8 => vSl v7 fun p9 m10 m11 => Q (.tuple #[.slice p9 m10 m11, iv 0]) h8)) : EvQ P f_a1 [.slice p1 m2 m3] h Q := fo [] H (by kernel_rfl)
theorem r_ix {s1 s2 : ByteArray} (H : bC ((↑(ByteArray.size s2) : Int) == 0) (Q (iv 0) h) (bC (bEq s2 s1) (Q (iv 0) h) (bC ((↑(ByteArray.size s2) : Int) == 1) (oB (natIdx 0 (ByteArray.size s2)) fun m3 => oB (bAt s2 m3) fun n4 => EvQ P f_iy [.string s1, .int .u8 n4] h fun v5 h6 => vInt .i64 v5 fun n7 => Q (iv n7) h6) (bC (decide ((↑(ByteArray.size s2) : Int) ≥ (↑(ByteArray.size s1) : Int))) (Q (iv (Int.negSucc 0)) h) (rI h 0 0 fun n9 => bC (decide ((↑(ByteArray.size s2) : Int) ≤ n9)) (bC (decide ((↑(ByteArray.size s1) : Int) ≤ 64)) (EvQ P f_bn [.string s1, .string s2] h fun v10 h11 => vInt .i64 v10 fun n12 => Q (iv n12) h11) (oB (natIdx 0 (ByteArray.size s2)) fun m13 => oB (bAt s2 m13) fun n14 => oB (natIdx 1 (ByteArray.size s2)) fun m15 => oB (bAt s2 m15) fun n16 => unitAt P f_ix 15 [0, 1, 5, 6, 7, 8, 9, 10] [.string s1, .string s2, iv (↑(ByteArray.size s2) : Int), .int .u8 n14, .int .u8 n16, iv 0, iv (IntKind.wrap .i64 (IntKind.wrap .i64 ((↑(ByteArray.size s1) : Int) - (↑(ByteArray.size s2) : Int)) + 1)), iv 0] h Q)) (oB (natIdx 0 (ByteArray.size s2)) fun m17 => oB (bAt s2 m17) fun n18 => oB (natIdx 1 (ByteArray.size s2)) fun m19 => oB (bAt s2 m19) fun n20 => unitAt P f_ix 15 [0, 1, 5, 6, 7, 8, 9, 10] [.string s1, .string s2, iv (↑(ByteArray.size s2) : Int), .int .u8 n18, .int .u8 n20, iv 0, iv (IntKind.wrap .i64 (IntKind.wrap .i64 ((↑(ByteArray.size s1) : Int) - (↑(ByteArray.size s2) : Int)) + 1)), iv 0] h Q)))))) : EvQ P f_ix [.string s1, .string s2] h Q := fo [(15,[0,1,5,6,7,8,9,10]),(21,[0,1,5,6,7,8,9,10])] H (by kernel_rfl)
theorem r_iz {s1 s2 : ByteArray} {n3 n4 : Int} {n5 n6 : Int} {n7 n8 : Int} (H : bC (decide (n6 < n7)) (oB (natIdx n6 (ByteArray.size s1)) fun m9 => oB (bAt s1 m9) fun n10 => bC (n10 != n4) (oB (natBnd n7 (ByteArray.size s1)) fun m11 => oB (natBnd (IntKind.wrap .i64 (n6 + 1)) m11) fun m12 => EvQ P f_iy [.string (bSub s1 m12 m11), .int .u8 n4] h fun v13 h14 => vInt .i64 v13 fun n15 => bC (decide (n15 < 0)) (Q (iv (Int.negSucc 0)) h14) (unitAt P f_ix 21 [0, 1, 5, 6, 7, 8, 9, 10] [.string s1, .string s2, iv n3, .int .u8 n4, .int .u8 n5, iv (IntKind.wrap .i64 (n6 + IntKind.wrap .i64 (n15 + 1))), iv n7, iv n8] h14 Q)) (unitAt P f_ix 21 [0, 1, 5, 6, 7, 8, 9, 10] [.string s1, .string s2, iv n3, .int .u8 n4, .int .u8 n5, iv n6, iv n7, iv n8] h Q)) (Q (iv (Int.negSucc 0)) h)) : unitAt P f_ix 15 [0, 1, 5, 6, 7, 8, 9, 10] [.string s1, .string s2, iv n3, .int .u8 n4, .int .u8 n5, iv n6, iv n7, iv n8] h Q := uo [(15,[0,1,5,6,7,8,9,10]),(21,[0,1,5,6,7,8,9,10])] H (by kernel_rfl)
theorem r_gg {p1 : Option Addr} {m2 m3 : Nat} (H : bC (Option.isNone p1) (Q (.slice none 0 0) h) (oP (appendB P (AW.addVar h []) #[ty_sl_api_Word, ty_sl_api_Word] [.slice (some ⟨(AW.next h), 0, none⟩) 0 0, .slice p1 m2 m3]) fun v4 h5 => vSl v4 fun p6 m7 m8 => Q (.slice p6 m7 m8) h5)) : EvQ P f_gg [.slice p1 m2 m3] h Q := fo [] H (by kernel_rfl)
theorem r_ew {p1 : Option Addr} {s2 : ByteArray} (H : EvQ P f_f2 [.pointer p1, .string s2] h fun v3 h4 => vStr v3 fun s5 => EvQ P f_fy [.string s5] h4 fun v6 h7 => vTup v6 fun l8 => cS l8 fun s11 l10 => cI l10 fun n14 l13 => lN l13 (bC (n14 != 0) (EvQ P f_et [.pointer p1, iv 141, .string s5] h7 fun v15 h16 => vBool v15 fun b17 => Q (.tuple #[.string zS, .bool b17]) h16) (Q (.tuple #[.string s11, .bool true]) h7))) : EvQ P f_ew [.pointer p1, .string s2] h Q := fo [] H (by kernel_rfl)
end Go.Proofs.YtkbioibemcmanaaGreatDoor.E
end

section
/- Rules of walks, printed by a program of ours: group E15. -/
namespace Go.Proofs.YtkbioibemcmanaaGreatDoor.E
open Go.Abs
set_option maxRecDepth 100000
variable {h : AW} {Q : Value → AW → Prop}
set_option maxHeartbeats 4000000
attribute [local irreducible] kFn kUnit EvQ unitAt kOwn RunOwn
theorem r_bh {s1 : ByteArray} {m2 m3 : Nat} (H : rP h m2 m3 fun p5 => EvQ P f_fp [.pointer p5, .string s1] h fun v6 h7 => vTup v6 fun l8 => cS l8 fun s11 l10 => cI l10 fun n14 l13 => lN l13 (Q (.tuple #[.string s11, .bool (n14 == 0)]) h7)) : EvQ P f_bh [.string s1, .pointer (some ⟨m2, m3, none⟩)] h Q := fo [] H (by kernel_rfl)
theorem r_ee {p1 : Option Addr} (H : EvQ P f_ei [.pointer p1] h fun v2 h3 => vSl v2 fun p4 m5 m6 => unitAt P f_ee 3 [0, 3, 9, 10, 11] [.pointer p1, .slice none 0 0, .slice p4 m5 m6, iv (↑m5 : Int), iv 0] h3 Q) : EvQ P f_ee [.pointer p1] h Q := fo [(3,[0,3,9,10,11]),(6,[0,3,5,9,10,11,17,18,19])] H (by kernel_rfl)
theorem r_ef {p1 : Option Addr} {p2 : Option Addr} {m3 m4 : Nat} {p5 : Option Addr} {m6 m7 : Nat} {n8 n9 : Int} (H : bC (decide (n9 < n8)) (xS p5 n9 m6 1 h fun s14 => EvQ P f_ej [.pointer p1, .string s14] h fun v15 h16 => vSl v15 fun p17 m18 m19 => unitAt P f_ee 6 [0, 3, 5, 9, 10, 11, 17, 18, 19] [.pointer p1, .slice p2 m3 m4, .string s14, .slice p5 m6 m7, iv n8, iv n9, .slice p17 m18 m19, iv (↑m18 : Int), iv 0] h16 Q) (Q (.slice p2 m3 m4) h)) : unitAt P f_ee 3 [0, 3, 9, 10, 11] [.pointer p1, .slice p2 m3 m4, .slice p5 m6 m7, iv n8, iv n9] h Q := uo [(3,[0,3,9,10,11]),(6,[0,3,5,9,10,11,17,18,19])] H (by kernel_rfl)
theorem r_eg {p1 : Option Addr} {p2 : Option Addr} {m3 m4 : Nat} {s5 : ByteArray} {p6 : Option Addr} {m7 m8 : Nat} {n9 n10 : Int} {p11 : Option Addr} {m12 m13 : Nat} {n14 n15 : Int} (H : bC (decide (n15 < n14)) (xS p11 n15 m12 1 h fun s20 => oP (appendB P (AW.addVar h [.string s5, .string s20]) #[ty_sl_api_Edge, ty_sl_api_Edge] [.slice p2 m3 m4, .slice (some ⟨(AW.next h), 0, none⟩) 1 1]) fun v21 h22 => vSl v21 fun p23 m24 m25 => unitAt P f_ee 6 [0, 3, 5, 9, 10, 11, 17, 18, 19] [.pointer p1, .slice p23 m24 m25, .string s5, .slice p6 m7 m8, iv n9, iv n10, .slice p11 m12 m13, iv n14, iv (IntKind.wrap .i64 (n15 + 1))] h22 Q) (unitAt P f_ee 3 [0, 3, 9, 10, 11] [.pointer p1, .slice p2 m3 m4, .slice p6 m7 m8, iv n9, iv (IntKind.wrap .i64 (n10 + 1))] h Q)) : unitAt P f_ee 6 [0, 3, 5, 9, 10, 11, 17, 18, 19] [.pointer p1, .slice p2 m3 m4, .string s5, .slice p6 m7 m8, iv n9, iv n10, .slice p11 m12 m13, iv n14, iv n15] h Q := uo [(3,[0,3,9,10,11]),(6,[0,3,5,9,10,11,17,18,19])] H (by kernel_rfl)
theorem r_gw {p1 : Option Addr} {m2 m3 : Nat} {s4 : ByteArray} (H : unitAt P f_gw 2 [0, 1, 7, 8] [.slice p1 m2 m3, .string s4, iv (↑m2 : Int), iv 0] h Q) : EvQ P f_gw [.slice p1 m2 m3, .string s4] h Q := fo [(2,[0,1,7,8])] H (by kernel_rfl)
theorem r_gx {p1 : Option Addr} {m2 m3 : Nat} {s4 : ByteArray} {n5 n6 : Int} (H : bC (decide (n6 < n5)) (xS p1 n6 m2 1 h fun s11 => bC (bEq s4 s11) (Q (iv n6) h) (unitAt P f_gw 2 [0, 1, 7, 8] [.slice p1 m2 m3, .string s4, iv n5, iv (IntKind.wrap .i64 (n6 + 1))] h Q)) (Q (iv (Int.negSucc 0)) h)) : unitAt P f_gw 2 [0, 1, 7, 8] [.slice p1 m2 m3, .string s4, iv n5, iv n6] h Q := uo [(2,[0,1,7,8])] H (by kernel_rfl)
theorem r_g2 {n1 : Int} (H : bC (decide (n1 ≥ 97)) (bC (decide (n1 ≤ 122)) (Q (.bool true) h) (bC (decide (n1 ≥ 48)) (bC (decide (n1 ≤ 57)) (Q (.bool true) h) (bC (n1 == 95) (Q (.bool true) h) (bC (n1 == 46) (Q (.bool true) h) (bC (n1 == 45) (Q (.bool true) h) (Q (.bool false) h))))) (bC (n1 == 95) (Q (.bool true) h) (bC (n1 == 46) (Q (.bool true) h) (bC (n1 == 45) (Q (.bool true) h) (Q (.bool false) h)))))) (bC (decide (n1 ≥ 48)) (bC (decide (n1 ≤ 57)) (Q (.bool true) h) (bC (n1 == 95) (Q (.bool true) h) (bC (n1 == 46) (Q (.bool true) h) (bC (n1 == 45) (Q (.bool true) h) (Q (.bool false) h))))) (bC (n1 == 95) (Q (.bool true) h) (bC (n1 == 46) (Q (.bool true) h) (bC (n1 == 45) (Q (.bool true) h) (Q (.bool false) h)))))) : EvQ P f_g2 [.int .u8 n1] h Q := fo [] H (by kernel_rfl)
theorem r_fl {p1 : Option Addr} {n2 : Int} (H : EvQ P f_fn [.pointer p1] h fun v3 h4 => jL p1 1 h4 fun p8 m9 m10 => oP (appendB P (AW.addVar h4 [.int .u8 n2]) #[ty_sl_uint8, ty_sl_uint8] [.slice p8 m9 m10, .slice (some ⟨(AW.next h4), 0, none⟩) 1 1]) fun v11 h12 => vSl v11 fun p13 m14 m15 => wF p1 1 h12 (.slice p13 m14 m15) fun h18 => Q .nilIface h18) : EvQ P f_fl [.pointer p1, .int .u8 n2] h Q := fo [] H (by kernel_rfl)
theorem r_c3 {p1 : Option Addr} {m2 m3 : Nat} (H : EvQ P f_gf [.slice p1 m2 m3] h fun v4 h5 => vSl v4 fun p6 m7 m8 => unitAt P f_c3 3 [3, 8, 9] [.slice p6 m7 m8, iv (↑m7 : Int), iv 0] h5 Q) : EvQ P f_c3 [.slice p1 m2 m3] h Q := fo [(3,[3,8,9])] H (by kernel_rfl)
theorem r_c4 {p1 : Option Addr} {m2 m3 : Nat} {n4 n5 : Int} (H : bC (decide (n5 < n4)) (aP p1 fun m6 m7 => oB (natIdx n5 m2) fun m8 => rL h m6 (m7 + m8 * 4 + 1) fun p10 m11 m12 => EvQ P f_gh [.slice p10 m11 m12] h fun v13 h14 => vSl v13 fun p15 m16 m17 => aP p1 fun m18 m19 => oB (natIdx n5 m2) fun m20 => rL h14 m18 (m19 + m20 * 4 + 3) fun p22 m23 m24 => EvQ P f_c3 [.slice p22 m23 m24] h14 fun v25 h26 => vSl v25 fun p27 m28 m29 => aP p1 fun m30 m31 => oB (natIdx n5 m2) fun m32 => oB (AW.wr h26 m30 (m31 + m32 * 4 + 1) (.slice p15 m16 m17)) fun h33 => aP p1 fun m34 m35 => oB (natIdx n5 m2) fun m36 => oB (AW.wr h33 m34 (m35 + m36 * 4 + 3) (.slice p27 m28 m29)) fun h37 => rL h m18 (m19 + m20 * 4 + 3) fun p39 m40 m41 => Value.slice p39 m40 m41 = .slice p22 m23 m24 ∧ unitAt P f_c3 3 [3, 8, 9] [.slice p1 m2 m3, iv n4, iv (IntKind.wrap .i64 (n5 + 1))] h37 Q) (Q (.slice p1 m2 m3) h)) : unitAt P f_c3 3 [3, 8, 9] [.slice p1 m2 m3, iv n4, iv n5] h Q := uo [(3,[3,8,9])] H (by kernel_rfl)
theorem r_ex {p1 : Option Addr} {n2 : Int} (H : jI p1 2 h fun n6 => jI p1 3 h fun n10 => bC (decide (n2 > IntKind.wrap .i64 (n6 - n10))) (jI p1 2 h fun n14 => wF p1 3 h (iv n14) fun h17 => EvQ P f_et [.pointer p1, iv 143, .string zS] h17 fun v18 h19 => vBool v18 fun b20 => Q (.bool b20) h19) (jI p1 3 h fun n24 => aP p1 fun m25 m26 => oB (AW.wr h m25 (m26 + 3) (iv (IntKind.wrap .i64 (n24 + n2)))) fun h27 => Q (.bool true) h27)) : EvQ P f_ex [.pointer p1, iv n2] h Q := fo [] H (by kernel_rfl)
theorem r_i6 {s1 s2 : ByteArray} (H : EvQ P f_iu [.string s1, .string s2] h fun v3 h4 => vTup v3 fun l5 => cS l5 fun s8 l7 => cB l7 fun b11 l10 => lN l10 (Q (.tuple #[.string s8, .bool b11]) h4)) : EvQ P f_i6 [.string s1, .string s2] h Q := fo [] H (by kernel_rfl)
theorem r_ad {n1 n2 : Int} (H : bC (n1 == 1) (Q (.bool (n2 == 1)) h) (bC (n1 == 2) (Q (.bool (n2 == 1)) h) (bC (n1 == 8) (Q (.bool (n2 == 1)) h) (bC (n1 == 11) (Q (.bool (n2 == 1)) h) (unitAt P f_ad 7 [1, 5] [iv n2, iv n1] h Q))))) : EvQ P f_ad [iv n1, iv n2] h Q := fo [(7,[1,5]),(10,[1,5])] H (by kernel_rfl)
theorem r_af {n1 n2 : Int} (H : bC (n2 == 3) (Q (.bool true) h) (bC (n2 == 9) (Q (.bool true) h) (unitAt P f_ad 10 [1, 5] [iv n1, iv n2] h Q))) : unitAt P f_ad 7 [1, 5] [iv n1, iv n2] h Q := uo [(7,[1,5]),(10,[1,5])] H (by kernel_rfl)
theorem r_ae {n1 n2 : Int} (H : bC (n2 == 12) (Q (.bool (n1 == 2)) h) (Q (.bool (n1 == 0)) h)) : unitAt P f_ad 10 [1, 5] [iv n1, iv n2] h Q := uo [(7,[1,5]),(10,[1,5])] H (by kernel_rfl)
end Go.Proofs.YtkbioibemcmanaaGreatDoor.E
end

section
/- Bodies that the kernel can run, printed by a program of ours. -/
namespace Go.Proofs.YtkbioibemcmanaaGreatDoor.E
open Go.Abs
set_option maxRecDepth 100000
set_option maxHeartbeats 4000000
section
noncomputable def d_bi : BodyT := fun C D a h Q => match a with
  | [] => C f_be [.string (ByteArray.mk #[114, 117, 108, 101, 32, 98, 32, 58, 32, 97])] h fun v1 h2 => vAggE v1 fun l3 => lCE l3 fun v4 l5 => vSlE v4 fun p6 m7 m8 => CI l5 fun n11 l10 => lCE l10 fun v12 l13 => vSlE v12 fun p14 m15 m16 => lNE l13 (C f_bf [.agg #[.slice p6 m7 m8, iv n11, .slice p14 m15 m16]] h2 fun v17 h18 => vTupE v17 fun l19 => CP l19 fun p22 l21 => CP l21 fun p25 l24 => CB l24 fun b28 l27 => lNE l27 (bCE (!b28) (Q (.bool false) h18) (nxK h18 fun i_1 => ad1 h18 (.string (ByteArray.mk #[99])) fun h_2 => C f_br [.pointer p22, .pointer p25, iv 100, .slice (some ⟨i_1, 0, none⟩) 1 1] h_2 fun v29 h30 => vTupE v29 fun l31 => CP l31 fun p34 l33 => CI l33 fun n37 l36 => lNE l36 (neC n37 0 (Q (.bool false) h30) (bCE (Option.isNone p34) (Q (.bool false) h30) (C f_db [.pointer p34, .string (ByteArray.mk #[99])] h30 fun v38 h39 => vTupE v38 fun l40 => lCE l40 fun v41 l42 => vAggE v41 fun l43 => CS l43 fun s46 l45 => CI l45 fun n49 l48 => CS l48 fun s52 l51 => CI l51 fun n55 l54 => CS l54 fun s58 l57 => lNE l57 (CB l42 fun b61 l60 => lNE l60 (ad5 h39 (.string zS) (iv 0) (.string zS) (iv 0) (.string zS) fun h_3 => nxK h39 fun i_4 => wrLK i_4 [.string s46, iv n49, .string s52, iv n55, .string s58] h_3 0 fun h62 => bCE b61 (RS h62 i_4 0 fun s64 => RI h62 i_4 1 fun n66 => RS h62 i_4 2 fun s68 => RI h62 i_4 3 fun n70 => RS h62 i_4 4 fun s72 => bCE (bEq s64 (ByteArray.mk #[99]) && (n66 == 2 && (bEq s68 (ByteArray.mk #[88]) && (n70 == 0 && (bEq s72 zS && true))))) (C f_da [.pointer p34] h62 fun v73 h74 => vSlE v73 fun p75 m76 m77 => nxK h74 fun i_5 => ad2 h74 (.string (ByteArray.mk #[98])) (.string (ByteArray.mk #[99])) fun h_6 => C f_gq [.slice p75 m76 m77, .slice (some ⟨i_5, 0, none⟩) 2 2] h_6 fun v78 h79 => vBoolE v78 fun b80 => Q (.bool b80) h79) (Q (.bool false) h62)) (Q (.bool false) h62)))))))))
  | _ => False
noncomputable def d_fp : BodyT := fun C D a h Q => match a with
  | [.pointer p1, .string s2] => bCE (Option.isNone p1) (Q (.tuple #[.string zS, iv 1]) h) (C f_fv [.string s2] h fun v3 h4 => vBoolE v3 fun b5 => bCE (!b5) (Q (.tuple #[.string zS, iv 2]) h4) (GM p1 33 h4 fun p9 => mlK h4 p9 fun l10 => lkS s2 (fun p11 => vStrE (Option.getD p11 (.string zS)) fun s12 => bCE (!Option.isSome p11) (Q (.tuple #[.string zS, iv 4]) h4) (Q (.tuple #[.string s12, iv 0]) h4)) l10))
  | _ => False
noncomputable def d_ft : BodyT := fun C D a h Q => match a with
  | [.pointer p1, .string s2] => GI p1 32 h fun n6 => aPE p1 fun m7 m8 => nIdx (Int.tmod n6 32) 32 fun m9 => wrK h m7 (m8 + m9 * 1) (.string s2) fun h10 => GI p1 32 h10 fun n14 => aPE p1 fun m15 m16 => wrK h10 m15 (m16 + 32) (iv (wI64 (addI n14 1))) fun h17 => Q (.tuple #[]) h17
  | _ => False
noncomputable def d_cv : BodyT := fun C D a h Q => match a with
  | [.string s1] => C f_cs [.string s1] h fun v2 h3 => vBoolE v2 fun b4 => bCE b4 (Q (.string s1) h3) (C f_cu [.string s1] h3 fun v5 h6 => vStrE v5 fun s7 => Q (.string s7) h6)
  | _ => False
noncomputable def d_c5 : BodyT := fun C D a h Q => match a with
  | [.agg (Array.mk [.string s1, .slice p2 m3 m4, .slice p5 m6 m7, .slice p8 m9 m10])] => fN m3 fun m3 => fN m4 fun m4 => fN m6 fun m6 => fN m7 fun m7 => fN m9 fun m9 => fN m10 fun m10 => ad4 h (.string s1) (.slice p2 m3 m4) (.slice p5 m6 m7) (.slice p8 m9 m10) fun h_1 => ad4 h_1 (.string zS) (.slice none 0 0) (.slice none 0 0) (.slice none 0 0) fun h_2 => nxK h fun i_3 => RS h_2 i_3 0 fun s12 => RL h_2 i_3 1 fun p14 m15 m16 => C f_gh [.slice p14 m15 m16] h_2 fun v17 h18 => vSlE v17 fun p19 m20 m21 => RL h18 i_3 2 fun p23 m24 m25 => C f_gh [.slice p23 m24 m25] h18 fun v26 h27 => vSlE v26 fun p28 m29 m30 => RL h27 i_3 3 fun p32 m33 m34 => C f_c3 [.slice p32 m33 m34] h27 fun v35 h36 => vSlE v35 fun p37 m38 m39 => nxK h_1 fun i_4 => wrLK i_4 [.string s12, .slice p19 m20 m21, .slice p28 m29 m30, .slice p37 m38 m39] h36 0 fun h40 => RS h18 i_3 0 fun s42 => bCE (sameB (.string s42) (.string s12)) (RS h27 i_3 0 fun s44 => bCE (sameB (.string s44) (.string s12)) (RS h36 i_3 0 fun s46 => bCE (sameB (.string s46) (.string s12)) (RL h_2 i_3 2 fun p48 m49 m50 => bCE (sameB (.slice p48 m49 m50) (.slice p23 m24 m25)) (RL h_2 i_3 3 fun p52 m53 m54 => bCE (sameB (.slice p52 m53 m54) (.slice p32 m33 m34)) (RL h18 i_3 3 fun p56 m57 m58 => bCE (sameB (.slice p56 m57 m58) (.slice p32 m33 m34)) (RS h40 i_4 0 fun s60 => RL h40 i_4 1 fun p62 m63 m64 => RL h40 i_4 2 fun p66 m67 m68 => RL h40 i_4 3 fun p70 m71 m72 => Q (.agg #[.string s60, .slice p62 m63 m64, .slice p66 m67 m68, .slice p70 m71 m72]) h40) False) False) False) False) False) False
  | _ => False
noncomputable def d_io : BodyT := fun C D a h Q => match a with
  | [.string s1, .string s2, .int .i64 n3, .int .i64 n4] => fI n3 fun n3 => fI n4 fun n4 => eqC n4 0 (Q (.slice none 0 0) h) (bEqC s2 zS (C f_in [.string s1, iv n4] h fun v5 h6 => vSlE v5 fun p7 m8 m9 => Q (.slice p7 m8 m9) h6) (ltC n4 0 (C f_i4 [.string s1, .string s2] h fun v10 h11 => vIntE' .i64 v10 fun n12 => D f_io 7 4298115073 [.string s1, .string s2, iv n3, iv (wI64 (addI n12 1))] h11 Q) (D f_io 7 4298115073 [.string s1, .string s2, iv n3, iv n4] h Q)))
  | _ => False
noncomputable def d_ir : BodyT := fun C D a h Q => match a with
  | [.string s1, .string s2, .int .i64 n3, .int .i64 n4] => fI n3 fun n3 => fI n4 fun n4 => oPK (makeSliceV P h ty_sl_string (iv (if IntKind.wrap .i64 ((↑(szE s1) : Int) + 1) < n4 then IntKind.wrap .i64 ((↑(szE s1) : Int) + 1) else n4)) (iv (if IntKind.wrap .i64 ((↑(szE s1) : Int) + 1) < n4 then IntKind.wrap .i64 ((↑(szE s1) : Int) + 1) else n4))) fun v5 h6 => vSlE v5 fun p7 m8 m9 => D f_io 11 12395898389661697 [.string s1, .string s2, iv n3, iv (wI64 (subI (if IntKind.wrap .i64 ((↑(szE s1) : Int) + 1) < n4 then IntKind.wrap .i64 ((↑(szE s1) : Int) + 1) else n4) 1)), .slice p7 m8 m9, iv 0] h6 Q
  | _ => False
noncomputable def d_ip : BodyT := fun C D a h Q => match a with
  | [.string s1, .string s2, .int .i64 n3, .int .i64 n4, .slice p5 m6 m7, .int .i64 n8] => fI n3 fun n3 => fI n4 fun n4 => fN m6 fun m6 => fN m7 fun m7 => fI n8 fun n8 => ltC n8 n4 (C f_i9 [.string s1, .string s2] h fun v9 h10 => vIntE' .i64 v9 fun n11 => ltC n11 0 (D f_io 17 11544577 [.string s1, .slice p5 m6 m7, iv n8] h10 Q) (nBnd (wI64 (addI n11 n3)) (szE s1) fun m12 => aPE p5 fun m13 m14 => nIdx n8 m6 fun m15 => subK s1 0 m12 fun s_1 => wrK h10 m13 (m14 + m15 * 1) (.string s_1) fun h16 => nBnd (wI64 (addI n11 (↑(szE s2) : Int))) (szE s1) fun m17 => subK s1 m17 (szE s1) fun s_2 => D f_io 11 12395898389661697 [.string s_2, .string s2, iv n3, iv n4, .slice p5 m6 m7, iv (wI64 (addI n8 1))] h16 Q)) (D f_io 17 11544577 [.string s1, .slice p5 m6 m7, iv n8] h Q)
  | _ => False
noncomputable def d_iq : BodyT := fun C D a h Q => match a with
  | [.string s1, .slice p2 m3 m4, .int .i64 n5] => fN m3 fun m3 => fN m4 fun m4 => fI n5 fun n5 => aPE p2 fun m6 m7 => nIdx n5 m3 fun m8 => wrK h m6 (m7 + m8 * 1) (.string s1) fun h9 => nBnd (wI64 (addI n5 1)) m4 fun m10 => bCE (Nat.ble m10 m4) (oQ (shO p2 0) fun p11 => Q (.slice p11 (m10 - 0) (m4 - 0)) h9) (False)
  | _ => False
noncomputable def d_es : BodyT := fun C D a h Q => match a with
  | [.pointer p1, .agg (Array.mk [.int .i64 n2, .slice p3 m4 m5, .int .i64 n6, .slice p7 m8 m9])] => fI n2 fun n2 => fN m4 fun m4 => fN m5 fun m5 => fI n6 fun n6 => fN m8 fun m8 => fN m9 fun m9 => ad4 h (iv n2) (.slice p3 m4 m5) (iv n6) (.slice p7 m8 m9) fun h_1 => nxK h fun i_2 => RI h_1 i_2 0 fun n11 => eqC n11 1 (RL h_1 i_2 1 fun p13 m14 m15 => XS p13 0 m14 1 h_1 fun s20 => C f_er [.pointer p1, .string s20] h_1 fun v21 h22 => vTupE v21 fun l23 => CS l23 fun s26 l25 => CB l25 fun b29 l28 => lNE l28 (Q (.bool b29) h22)) (eqC n11 2 (RL h_1 i_2 1 fun p31 m32 m33 => XS p31 0 m32 1 h_1 fun s38 => C f_er [.pointer p1, .string s38] h_1 fun v39 h40 => vTupE v39 fun l41 => CS l41 fun s44 l43 => CB l43 fun b47 l46 => lNE l46 (bCE b47 (C f_ey [.pointer p1, .string s44] h40 fun v48 h49 => vBoolE v48 fun b50 => Q (.bool b50) h49) (Q (.bool false) h40))) (eqC n11 3 (RL h_1 i_2 1 fun p52 m53 m54 => C f_f4 [.pointer p1, .slice p52 m53 m54] h_1 fun v55 h56 => vStrE v55 fun s57 => bCE (Nat.ble (szE s57 + 1) 9223372036854775807) (C f_ey [.pointer p1, .string (s57 ++ ByteArray.mk #[10])] h56 fun v58 h59 => vBoolE v58 fun b60 => Q (.bool b60) h59) (False)) (eqC n11 4 (GS p1 4 h_1 fun s64 => oPK (convA P h_1 ty_string ty_sl_uint8 (.string s64)) fun v65 h66 => vSlE v65 fun p67 m68 m69 => C f_ch [.slice p67 m68 m69] h66 fun v70 h71 => vSlE v70 fun p72 m73 m74 => oQ (AW.bytes h71 p72 m73) fun s75 => WF p1 4 h71 (.string s75) fun h78 => Q (.bool true) h78) (eqC n11 5 (C f_f0 [.pointer p1, .func (Fn.func f_cn) #[] #[]] h_1 fun v79 h80 => vBoolE v79 fun b81 => Q (.bool b81) h80) (eqC n11 6 (C f_f0 [.pointer p1, .func (Fn.func f_co) #[] #[]] h_1 fun v82 h83 => vBoolE v82 fun b84 => Q (.bool b84) h83) (eqC n11 7 (C f_f0 [.pointer p1, .func (Fn.func f_cm) #[] #[]] h_1 fun v85 h86 => vBoolE v85 fun b87 => Q (.bool b87) h86) (eqC n11 8 (RL h_1 i_2 1 fun p89 m90 m91 => XS p89 0 m90 1 h_1 fun s96 => C f_ew [.pointer p1, .string s96] h_1 fun v97 h98 => vTupE v97 fun l99 => CS l99 fun s102 l101 => CB l101 fun b105 l104 => lNE l104 (bCE (!b105) (Q (.bool false) h98) (GM p1 6 h98 fun p109 => mlK h98 p109 fun l110 => lkS s102 (fun p111 => vStrE (Option.getD p111 (.string zS)) fun s112 => bCE (Option.isSome p111) (C f_et [.pointer p1, iv 142, .string s102] h98 fun v113 h114 => vBoolE v113 fun b115 => Q (.bool b115) h114) (GL p1 1 h98 fun p119 m120 m121 => C f_gl [.slice p119 m120 m121, .string s102] h98 fun v122 h123 => vBoolE v122 fun b124 => bCE (!b124) (C f_et [.pointer p1, iv 142, .string s102] h123 fun v125 h126 => vBoolE v125 fun b127 => Q (.bool b127) h126) (GM p1 6 h123 fun p131 => aPE p1 fun m132 m133 => RS h123 m132 (m133 + 4) fun s135 => mlK h123 p131 fun l136 => lkS s102 (fun p137 => vStrE (Option.getD p137 (.string zS)) fun s138 => mxK h123 (.map p131) (.string s102) fun m139 => muK h123 (.map p131) (.string s102) (.string s138) fun h140 => mpK h140 (.map p131) m139 (.string s135) fun h141 => WF p1 4 h141 (.string zS) fun h144 => RS h140 m132 (m133 + 4) fun s146 => bCE (sameB (.string s146) (.string s135)) (Q (.bool true) h144) False) l136))) l110))) (eqC n11 9 (RL h_1 i_2 1 fun p148 m149 m150 => C f_f4 [.pointer p1, .slice p148 m149 m150] h_1 fun v151 h152 => vStrE v151 fun s153 => C f_et [.pointer p1, iv 140, .string s153] h152 fun v154 h155 => vBoolE v154 fun b156 => Q (.bool b156) h155) (eqC n11 10 (aPE p1 fun m157 m158 => RL h_1 m157 (m158 + 8) fun p160 m161 m162 => RL h_1 i_2 3 fun p164 m165 m166 => RL h_1 i_2 3 fun p168 m169 m170 => RI h_1 i_2 2 fun n172 => ad6 h_1 (.slice p164 m165 m166) (iv (↑m169 : Int)) (.bool false) (.string zS) (.slice none 0 0) (iv n172) fun h_3 => nxK h_1 fun i_4 => apK ty_interp_frame 6 88 h_3 (.slice p160 m161 m162) (.slice (some ⟨i_4, 0, none⟩) 1 1) fun v173 h174 => vSlE v173 fun p175 m176 m177 => WF p1 8 h174 (.slice p175 m176 m177) fun h180 => RL h_3 m157 (m158 + 8) fun p182 m183 m184 => bCE (sameB (.slice p182 m183 m184) (.slice p160 m161 m162)) (Q (.bool true) h180) False) (eqC n11 11 (RL h_1 i_2 1 fun p186 m187 m188 => XS p186 0 m187 1 h_1 fun s193 => C f_er [.pointer p1, .string s193] h_1 fun v194 h195 => vTupE v194 fun l196 => CS l196 fun s199 l198 => CB l198 fun b202 l201 => lNE l201 (bCE (!b202) (Q (.bool false) h195) (aPE p1 fun m203 m204 => RL h195 m203 (m204 + 8) fun p206 m207 m208 => RL h195 i_2 3 fun p210 m211 m212 => RL h195 i_2 3 fun p214 m215 m216 => C f_cl [.string s199] h195 fun v217 h218 => vSlE v217 fun p219 m220 m221 => ad6 h218 (.slice p210 m211 m212) (iv (↑m215 : Int)) (.bool true) (.string zS) (.slice p219 m220 m221) (iv 0) fun h_5 => nxK h218 fun i_6 => apK ty_interp_frame 6 88 h_5 (.slice p206 m207 m208) (.slice (some ⟨i_6, 0, none⟩) 1 1) fun v222 h223 => vSlE v222 fun p224 m225 m226 => WF p1 8 h223 (.slice p224 m225 m226) fun h229 => RL h218 m203 (m204 + 8) fun p231 m232 m233 => bCE (sameB (.slice p231 m232 m233) (.slice p206 m207 m208)) (RL h_5 m203 (m204 + 8) fun p235 m236 m237 => bCE (sameB (.slice p235 m236 m237) (.slice p206 m207 m208)) (RL h218 i_2 3 fun p239 m240 m241 => bCE (sameB (.slice p239 m240 m241) (.slice p210 m211 m212)) (RL h218 i_2 3 fun p243 m244 m245 => bCE (sameB (.slice p243 m244 m245) (.slice p214 m215 m216)) (bCE (sameB (iv (↑m215 : Int)) (iv (↑m215 : Int))) (Q (.bool true) h229) False) False) False) False) False))) (eqC n11 12 (RL h_1 i_2 1 fun p247 m248 m249 => XS p247 0 m248 1 h_1 fun s254 => C f_f2 [.pointer p1, .string s254] h_1 fun v255 h256 => vStrE v255 fun s257 => RL h256 i_2 1 fun p259 m260 m261 => aPE p259 fun m262 m263 => nIdx 1 m260 fun m264 => RS h256 m262 (m263 + m264 * 1) fun s266 => C f_f2 [.pointer p1, .string s266] h256 fun v267 h268 => vStrE v267 fun s269 => RL h_1 i_2 1 fun p271 m272 m273 => bCE (sameB (.slice p271 m272 m273) (.slice p259 m260 m261)) (RS h_1 m262 (m263 + m264 * 1) fun s275 => bCE (sameB (.string s275) (.string s266)) (bEqC s257 s269 (aPE p1 fun m276 m277 => RL h268 m276 (m277 + 8) fun p279 m280 m281 => RL h268 i_2 3 fun p283 m284 m285 => ad6 h268 (.slice p283 m284 m285) (iv 0) (.bool false) (.string zS) (.slice none 0 0) (iv 0) fun h_7 => nxK h268 fun i_8 => apK ty_interp_frame 6 88 h_7 (.slice p279 m280 m281) (.slice (some ⟨i_8, 0, none⟩) 1 1) fun v286 h287 => vSlE v286 fun p288 m289 m290 => WF p1 8 h287 (.slice p288 m289 m290) fun h293 => RL h_7 m276 (m277 + 8) fun p295 m296 m297 => bCE (sameB (.slice p295 m296 m297) (.slice p279 m280 m281)) (Q (.bool true) h293) False) (Q (.bool true) h268)) False) False) (Q (.bool true) h_1))))))))))))
  | _ => False
noncomputable def d_ia : BodyT := fun C D a h Q => match a with
  | [.string s1, .int .u8 n2] => fI n2 fun n2 => C f_iy [.string s1, .int .u8 n2] h fun v3 h4 => vIntE' .i64 v3 fun n5 => Q (iv n5) h4
  | _ => False
noncomputable def d_f2 : BodyT := fun C D a h Q => match a with
  | [.pointer p1, .string s2] => GL p1 8 h fun p6 m7 m8 => D f_f2 3 15407134021634 [.string s2, .string zS, .slice p6 m7 m8, iv (↑m7 : Int), iv 0] h Q
  | _ => False
noncomputable def d_f3 : BodyT := fun C D a h Q => match a with
  | [.string s1, .string s2, .slice p3 m4 m5, .int .i64 n6, .int .i64 n7] => fN m4 fun m4 => fN m5 fun m5 => fI n6 fun n6 => fI n7 fun n7 => ltC n7 n6 (aPE p3 fun m8 m9 => nIdx n7 m4 fun m10 => RL h m8 (m9 + m10 * 6) fun p12 m13 m14 => RI h m8 (m9 + m10 * 6 + 1) fun n16 => RB h m8 (m9 + m10 * 6 + 1 + 1) fun b18 => RS h m8 (m9 + m10 * 6 + 1 + 1 + 1) fun s20 => RL h m8 (m9 + m10 * 6 + 1 + 1 + 1 + 1) fun p22 m23 m24 => RI h m8 (m9 + m10 * 6 + 1 + 1 + 1 + 1 + 1) fun n26 => ad6 h (.slice none 0 0) (iv 0) (.bool false) (.string zS) (.slice none 0 0) (iv 0) fun h_1 => nxK h fun i_2 => wrLK i_2 [.slice p12 m13 m14, iv n16, .bool b18, .string s20, .slice p22 m23 m24, iv n26] h_1 0 fun h27 => RB h27 i_2 2 fun b29 => bCE b29 (RS h27 i_2 3 fun s31 => D f_f2 3 15407134021634 [.string s1, .string s31, .slice p3 m4 m5, iv n6, iv (wI64 (addI n7 1))] h27 Q) (D f_f2 3 15407134021634 [.string s1, .string s2, .slice p3 m4 m5, iv n6, iv (wI64 (addI n7 1))] h27 Q)) (C f_ii [.string s1, .string (ByteArray.mk #[64]), .string s2] h fun v32 h33 => vStrE v32 fun s34 => Q (.string s34) h33)
  | _ => False
noncomputable def d_ht : BodyT := fun C D a h Q => match a with
  | [.slice p1 m2 m3, .int .u64 n4, .int .i64 n5, .bool b6, .bool b7, .slice p8 m9 m10, .string s11, .pointer (some ⟨m12, 0, none⟩), .int .i64 n13] => fN m2 fun m2 => fN m3 fun m3 => fI n4 fun n4 => fI n5 fun n5 => fB b6 fun b6 => fB b7 fun b7 => fN m9 fun m9 => fN m10 fun m10 => fN m12 fun m12 => fI n13 fun n13 => C f_hu [iv n5] h fun v14 h15 => vBoolE v14 fun b16 => bCE b16 (C f_d6 [.int .u64 (wU64 n5)] h15 fun v17 h18 => vIntE' .i64 v17 fun n19 => D f_hs 11 21569885394939044321782491252737 [.slice p1 m2 m3, .int .u64 n4, .bool b6, .bool b7, .slice p8 m9 m10, .string s11, .pointer (some ⟨m12, 0, none⟩), iv n13, .int .u64 (wU64 n19), .int .u64 (wU64 n5), .int .u64 (wU64 (subI (wU64 n5) 1))] h18 Q) (D f_hs 18 21777208037255827674892289 [.slice p1 m2 m3, .int .u64 n4, .bool b6, .bool b7, .slice p8 m9 m10, .string s11, .pointer (some ⟨m12, 0, none⟩), iv n13, .int .u64 (wU64 n5)] h15 Q)
  | _ => False
noncomputable def d_bf : BodyT := fun C D a h Q => match a with
  | [.agg (Array.mk [.slice p1 m2 m3, .int .i64 n4, .slice p5 m6 m7])] => fN m2 fun m2 => fN m3 fun m3 => fI n4 fun n4 => fN m6 fun m6 => fN m7 fun m7 => ad3 h (.slice p1 m2 m3) (iv n4) (.slice p5 m6 m7) fun h_1 => C f_j1 [] h_1 fun v8 h9 => vPtrE v8 fun p10 => ad1 h9 (.pointer none) fun h_2 => nxK h9 fun i_3 => wrK h_2 i_3 0 (.pointer p10) fun h11 => nxK h fun i_4 => RL h11 i_4 0 fun p13 m14 m15 => D f_bf 3 16120820742 [.pointer (some ⟨i_3, 0, none⟩), .slice p13 m14 m15, iv (↑m14 : Int), iv 0] h11 Q
  | _ => False
noncomputable def d_bg : BodyT := fun C D a h Q => match a with
  | [.pointer (some ⟨m1, 0, none⟩), .slice p2 m3 m4, .int .i64 n5, .int .i64 n6] => fN m1 fun m1 => fN m3 fun m3 => fN m4 fun m4 => fI n5 fun n5 => fI n6 fun n6 => ltC n6 n5 (aPE p2 fun m7 m8 => nIdx n6 m3 fun m9 => RS h m7 (m8 + m9 * 2) fun s11 => RS h m7 (m8 + m9 * 2 + 1) fun s13 => ad2 h (.string zS) (.string zS) fun h_1 => nxK h fun i_2 => wrLK i_2 [.string s11, .string s13] h_1 0 fun h14 => RP h14 m1 0 fun p16 => RS h14 i_2 0 fun s18 => RS h14 i_2 1 fun s20 => C f_fr [.pointer p16, .string s18, .string s20] h14 fun v21 h22 => vIntE' .i64 v21 fun n23 => neC n23 0 (Q (.tuple #[.pointer none, .pointer none, .bool false]) h22) (D f_bf 3 16120820742 [.pointer (some ⟨m1, 0, none⟩), .slice p2 m3 m4, iv n5, iv (wI64 (addI n6 1))] h22 Q)) (C f_c2 [.func (Fn.func f_bh) #[] #[.pointer (some ⟨m1, 0, none⟩)], .string (ByteArray.mk #[114])] h fun v24 h25 => vTupE v24 fun l26 => CP l26 fun p29 l28 => lCE l28 fun v30 l31 => vAggE v30 fun l32 => CI l32 fun n35 l34 => CS l34 fun s38 l37 => CI l37 fun n41 l40 => CI l40 fun n44 l43 => lNE l43 (lNE l31 (ad4 h25 (iv 0) (.string zS) (iv 0) (iv 0) fun h_3 => nxK h25 fun i_4 => wrLK i_4 [iv n35, .string s38, iv n41, iv n44] h_3 0 fun h45 => RP h45 m1 0 fun p47 => RI h45 i_4 0 fun n49 => RS h45 i_4 1 fun s51 => RI h45 i_4 2 fun n53 => RI h45 i_4 3 fun n55 => bCE (n49 == 0 && (bEq s51 zS && (n53 == 0 && (n55 == 0 && true)))) (Q (.tuple #[.pointer p29, .pointer p47, .bool !Option.isNone p29]) h45) (Q (.tuple #[.pointer p29, .pointer p47, .bool false]) h45))))
  | _ => False
noncomputable def d_gk : BodyT := fun C D a h Q => match a with
  | [.slice p1 m2 m3, .func (Fn.func m4) x5 x6] => fN m2 fun m2 => fN m3 fun m3 => fN m4 fun m4 => C f_gu [.slice p1 m2 m3, .func (Fn.func m4) x5 x6] h fun v7 h8 => vIntE' .i64 v7 fun n9 => Q (.bool (decide (n9 ≥ 0))) h8
  | _ => False
noncomputable def d_ds : BodyT := fun C D a h Q => match a with
  | [.pointer p1, .string s2, .string s3] => GL p1 5 h fun p7 m8 m9 => ad1 h (.string s2) fun h_1 => nxK h fun i_2 => apK ty_string 1 16 h_1 (.slice p7 m8 m9) (.slice (some ⟨i_2, 0, none⟩) 1 1) fun v10 h11 => vSlE v10 fun p12 m13 m14 => WF p1 5 h11 (.slice p12 m13 m14) fun h17 => GP p1 1 h17 fun p21 => GL p21 3 h17 fun p25 m26 m27 => C f_gl [.slice p25 m26 m27, .string s2] h17 fun v28 h29 => vBoolE v28 fun b30 => bCE (!b30) (aPE p1 fun m31 m32 => RP h29 m31 (m32 + 1) fun p34 => aPE p1 fun m35 m36 => RP h29 m35 (m36 + 1) fun p38 => aPE p38 fun m39 m40 => RL h29 m39 (m40 + 3) fun p42 m43 m44 => ad1 h29 (.string s2) fun h_3 => nxK h29 fun i_4 => apK ty_string 1 16 h_3 (.slice p42 m43 m44) (.slice (some ⟨i_4, 0, none⟩) 1 1) fun v45 h46 => vSlE v45 fun p47 m48 m49 => WF p34 3 h46 (.slice p47 m48 m49) fun h52 => RP h_3 m31 (m32 + 1) fun p54 => bCE (sameB (.pointer p54) (.pointer p34)) (RP h46 m31 (m32 + 1) fun p56 => bCE (sameB (.pointer p56) (.pointer p34)) (RP h_3 m35 (m36 + 1) fun p58 => bCE (sameB (.pointer p58) (.pointer p38)) (RL h_3 m39 (m40 + 3) fun p60 m61 m62 => bCE (sameB (.slice p60 m61 m62) (.slice p42 m43 m44)) (D f_ds 4 3073 [.pointer p1, .string s3] h52 Q) False) False) False) False) (D f_ds 4 3073 [.pointer p1, .string s3] h29 Q)
  | _ => False
noncomputable def d_du : BodyT := fun C D a h Q => match a with
  | [.pointer p1, .string s2] => C f_g6 [.string s2] h fun v3 h4 => vTupE v3 fun l5 => lCE l5 fun v6 l7 => vSlE v6 fun p8 m9 m10 => lCE l7 fun v11 l12 => vAggE v11 fun l13 => CI l13 fun n16 l15 => CS l15 fun s19 l18 => CI l18 fun n22 l21 => CI l21 fun n25 l24 => lNE l24 (lNE l12 (ad4 h4 (iv 0) (.string zS) (iv 0) (iv 0) fun h_1 => nxK h4 fun i_2 => wrLK i_2 [iv n16, .string s19, iv n22, iv n25] h_1 0 fun h26 => RI h26 i_2 0 fun n28 => neC n28 0 (RI h26 i_2 0 fun n30 => RI h26 i_2 2 fun n32 => RI h26 i_2 3 fun n34 => C f_dr [.pointer p1, iv n30, .agg #[.string zS, iv n32, iv n34, .bool false, .bool false]] h26 fun v35 h36 => vBoolE v35 fun b37 => Q (.bool b37) h36) (D f_ds 8 74159557633 [.pointer p1, .slice p8 m9 m10, iv (↑m9 : Int), iv 0] h26 Q)))
  | _ => False
noncomputable def d_dv : BodyT := fun C D a h Q => match a with
  | [.pointer p1, .slice p2 m3 m4, .int .i64 n5, .int .i64 n6] => fN m3 fun m3 => fN m4 fun m4 => fI n5 fun n5 => fI n6 fun n6 => ltC n6 n5 (aPE p2 fun m7 m8 => nIdx n6 m3 fun m9 => RI h m7 (m8 + m9 * 6) fun n11 => RI h m7 (m8 + m9 * 6 + 1) fun n13 => RS h m7 (m8 + m9 * 6 + 1 + 1) fun s15 => RL h m7 (m8 + m9 * 6 + 1 + 1 + 1) fun p17 m18 m19 => RL h m7 (m8 + m9 * 6 + 1 + 1 + 1 + 1) fun p21 m22 m23 => RL h m7 (m8 + m9 * 6 + 1 + 1 + 1 + 1 + 1) fun p25 m26 m27 => ad6 h (iv 0) (iv 0) (.string zS) (.slice none 0 0) (.slice none 0 0) (.slice none 0 0) fun h_1 => nxK h fun i_2 => wrLK i_2 [iv n11, iv n13, .string s15, .slice p17 m18 m19, .slice p21 m22 m23, .slice p25 m26 m27] h_1 0 fun h28 => RI h28 i_2 0 fun n30 => eqC n30 1 (RL h28 i_2 4 fun p32 m33 m34 => C f_e1 [.pointer p1, .slice p32 m33 m34] h28 fun v35 h36 => vTupE v35 fun l37 => lCE l37 fun v38 l39 => vSlE v38 fun p40 m41 m42 => CB l39 fun b45 l44 => lNE l44 (bCE b45 (aPE p1 fun m46 m47 => RM h36 m46 (m47 + 2) fun p49 => RS h36 i_2 2 fun s51 => C f_c8 [.slice p40 m41 m42] h36 fun v52 h53 => vSlE v52 fun p54 m55 m56 => muK h53 (.map p49) (.string s51) (.slice p54 m55 m56) fun h57 => RM h53 m46 (m47 + 2) fun p59 => bCE (sameB (.map p59) (.map p49)) (RS h53 i_2 2 fun s61 => bCE (sameB (.string s61) (.string s51)) (D f_ds 21 75939387027457 [.pointer p1, .bool b45, .slice p2 m3 m4, iv n5, iv n6] h57 Q) False) False) (D f_ds 21 75939387027457 [.pointer p1, .bool b45, .slice p2 m3 m4, iv n5, iv n6] h36 Q))) (eqC n30 2 (RI h28 i_2 0 fun n63 => RI h28 i_2 1 fun n65 => RS h28 i_2 2 fun s67 => RL h28 i_2 3 fun p69 m70 m71 => RL h28 i_2 4 fun p73 m74 m75 => RL h28 i_2 5 fun p77 m78 m79 => C f_e4 [.pointer p1, .agg #[iv n63, iv n65, .string s67, .slice p69 m70 m71, .slice p73 m74 m75, .slice p77 m78 m79]] h28 fun v80 h81 => vBoolE v80 fun b82 => D f_ds 21 75939387027457 [.pointer p1, .bool b82, .slice p2 m3 m4, iv n5, iv n6] h81 Q) (eqC n30 3 (RI h28 i_2 0 fun n84 => RI h28 i_2 1 fun n86 => RS h28 i_2 2 fun s88 => RL h28 i_2 3 fun p90 m91 m92 => RL h28 i_2 4 fun p94 m95 m96 => RL h28 i_2 5 fun p98 m99 m100 => C f_e6 [.pointer p1, .agg #[iv n84, iv n86, .string s88, .slice p90 m91 m92, .slice p94 m95 m96, .slice p98 m99 m100]] h28 fun v101 h102 => vBoolE v101 fun b103 => D f_ds 21 75939387027457 [.pointer p1, .bool b103, .slice p2 m3 m4, iv n5, iv n6] h102 Q) (D f_ds 21 75939387027457 [.pointer p1, .bool false, .slice p2 m3 m4, iv n5, iv n6] h28 Q)))) (GL p1 5 h fun p107 m108 m109 => GL p1 5 h fun p113 m114 m115 => nBnd (wI64 (subI (↑m114 : Int) 1)) m109 fun m116 => bCE (Nat.ble m116 m109) (oQ (shO p107 0) fun p117 => WF p1 5 h (.slice p117 (m116 - 0) (m109 - 0)) fun h120 => Q (.bool true) h120) (False))
  | _ => False
theorem kk_ev0 : (KO P d_bi f_bi) ∧ (KE P d_fp f_fp 0 0) ∧ (KE P d_ft f_ft 0 0) ∧ (KE P d_cv f_cv 0 0) ∧ (KE P d_c5 f_c5 0 0) ∧ (KE P d_io f_io 0 0) ∧ (KE P d_ir f_io 8 4298115073) ∧ (KE P d_ip f_io 12 12395898389661697) ∧ (KE P d_iq f_io 18 11544577) ∧ (KE P d_es f_es 0 0) ∧ (KE P d_ia f_ia 0 0) ∧ (KE P d_f2 f_f2 0 0) ∧ (KE P d_f3 f_f2 4 15407134021634) ∧ (KE P d_ht f_hs 8 16940323013122590906517505) ∧ (KE P d_bf f_bf 0 0) ∧ (KE P d_bg f_bf 4 16120820742) ∧ (KE P d_gk f_gk 0 0) ∧ (KE P d_ds f_ds 0 0) ∧ (KE P d_du f_ds 5 3073) ∧ (KE P d_dv f_ds 9 74159557633) := by
  refine ⟨?a0, ?a1, ?a2, ?a3, ?a4, ?a5, ?a6, ?a7, ?a8, ?a9, ?a10, ?a11, ?a12, ?a13, ?a14, ?a15, ?a16, ?a17, ?a18, ?a19⟩
  all_goals intro C D hC hD a h Q H
  case' a0 => unfold d_bi at H; split at H; refine r_bi ?_
  case' a1 => unfold d_fp at H; split at H; refine r_fp ?_
  case' a2 => unfold d_ft at H; split at H; refine r_ft ?_
  case' a3 => unfold d_cv at H; split at H; refine r_cv ?_
  case' a4 => unfold d_c5 at H; split at H; refine r_c5 ?_
  case' a5 => unfold d_io at H; split at H; refine r_io ?_
  case' a6 => unfold d_ir at H; split at H; refine r_ir ?_
  case' a7 => unfold d_ip at H; split at H; refine r_ip ?_
  case' a8 => unfold d_iq at H; split at H; refine r_iq ?_
  case' a9 => unfold d_es at H; split at H; refine r_es ?_
  case' a10 => unfold d_ia at H; split at H; refine r_ia ?_
  case' a11 => unfold d_f2 at H; split at H; refine r_f2 ?_
  case' a12 => unfold d_f3 at H; split at H; refine r_f3 ?_
  case' a13 => unfold d_ht at H; split at H; refine r_ht ?_
  case' a14 => unfold d_bf at H; split at H; refine r_bf ?_
  case' a15 => unfold d_bg at H; split at H; refine r_bg ?_
  case' a16 => unfold d_gk at H; split at H; refine r_gk ?_
  case' a17 => unfold d_ds at H; split at H; refine r_ds ?_
  case' a18 => unfold d_du at H; split at H; refine r_du ?_
  case' a19 => unfold d_dv at H; split at H; refine r_dv ?_
  all_goals try exact H.elim
  all_goals try simp only [wI64_eq, addI_eq, subI_eq, szE_eq, wU64_eq] at H
  all_goals revert H
  all_goals repeat' with_reducible first
 | refine qbt ti_ty_map_string_string rfl ti_ty_string rfl fun _ => ?_
 | refine qbs ti_ty_map_string_string rfl ti_ty_string rfl fun _ => ?_
 | refine qbu fun _ => ?_
 | refine qbr ti_ty_sl_interp_frame rfl ti_ty_interp_frame rfl rfl rfl ti_ty_sl_interp_frame rfl fun _ _ => ?_
 | refine qbr ti_ty_sl_string rfl ti_ty_string rfl rfl rfl ti_ty_sl_string rfl fun _ _ => ?_
 | refine qbs ti_ty_map_string_sl_string rfl ti_ty_string rfl fun _ => ?_
 | refine qaa fun _ => ?_
 | refine qab fun _ => ?_
 | refine qac ?_
 | refine qad ?_
 | refine qae ?_
 | refine qaf hC fun _ _ => ?_
 | refine qag hD (by decide)
 | refine qah (by with_unfolding_all rfl) (by with_unfolding_all rfl) ?_
 | refine qai ?_
 | refine qaj ?_
 | refine qam fun _ => ?_
 | refine qan fun _ => ?_
 | refine qao fun _ => ?_
 | refine qaq fun _ => ?_
 | refine qar fun _ => ?_
 | refine qas fun _ => ?_
 | refine qat ?_ ?_
 | refine qax ?_ ?_
 | refine qay ?_ ?_
 | refine qaz ?_ ?_
 | refine qba fun _ => ?_
 | refine qbb fun _ _ _ => ?_
 | refine qbc fun _ => ?_
 | refine qbd fun _ _ => ?_
 | refine qbe ?_
 | refine qbf fun _ => ?_
 | refine qbg fun _ _ => ?_
 | refine qbh fun _ _ => ?_
 | refine qbi fun _ => ?_
 | refine qbk fun _ => ?_
 | refine qbl fun _ => ?_
 | refine qbn fun _ => ?_
 | refine qbo ?_
 | refine qbp ?_
 | refine qbq ?_ ?_
 | exact id
noncomputable def e_bi : Ent P := ⟨f_bi, 0, 0, dOwn 8 d_bi, fun _ _ hC hD => own_ent (by kernel_rfl) (kk_ev0.1 _ _ hC hD)⟩
noncomputable def e_fp := en kk_ev0.2.1
noncomputable def e_ft := en kk_ev0.2.2.1
noncomputable def e_cv := en kk_ev0.2.2.2.1
noncomputable def e_c5 := en kk_ev0.2.2.2.2.1
noncomputable def e_io := en kk_ev0.2.2.2.2.2.1
noncomputable def e_ir := en kk_ev0.2.2.2.2.2.2.1
noncomputable def e_ip := en kk_ev0.2.2.2.2.2.2.2.1
noncomputable def e_iq := en kk_ev0.2.2.2.2.2.2.2.2.1
noncomputable def e_es := en kk_ev0.2.2.2.2.2.2.2.2.2.1
noncomputable def e_ia := en kk_ev0.2.2.2.2.2.2.2.2.2.2.1
noncomputable def e_f2 := en kk_ev0.2.2.2.2.2.2.2.2.2.2.2.1
noncomputable def e_f3 := en kk_ev0.2.2.2.2.2.2.2.2.2.2.2.2.1
noncomputable def e_ht := en kk_ev0.2.2.2.2.2.2.2.2.2.2.2.2.2.1
noncomputable def e_bf := en kk_ev0.2.2.2.2.2.2.2.2.2.2.2.2.2.2.1
noncomputable def e_bg := en kk_ev0.2.2.2.2.2.2.2.2.2.2.2.2.2.2.2.1
noncomputable def e_gk := en kk_ev0.2.2.2.2.2.2.2.2.2.2.2.2.2.2.2.2.1
noncomputable def e_ds := en kk_ev0.2.2.2.2.2.2.2.2.2.2.2.2.2.2.2.2.2.1
noncomputable def e_du := en kk_ev0.2.2.2.2.2.2.2.2.2.2.2.2.2.2.2.2.2.2.1
noncomputable def e_dv := en kk_ev0.2.2.2.2.2.2.2.2.2.2.2.2.2.2.2.2.2.2.2
end
end Go.Proofs.YtkbioibemcmanaaGreatDoor.E
end

section
/- Bodies that the kernel can run, printed by a program of ours. -/
namespace Go.Proofs.YtkbioibemcmanaaGreatDoor.E
open Go.Abs
set_option maxRecDepth 100000
set_option maxHeartbeats 4000000
section
noncomputable def d_dt : BodyT := fun C D a h Q => match a with
  | [.pointer p1, .bool b2, .slice p3 m4 m5, .int .i64 n6, .int .i64 n7] => fB b2 fun b2 => fN m4 fun m4 => fN m5 fun m5 => fI n6 fun n6 => fI n7 fun n7 => bCE (!b2) (Q (.bool false) h) (D f_ds 8 74159557633 [.pointer p1, .slice p3 m4 m5, iv n6, iv (wI64 (addI n7 1))] h Q)
  | _ => False
noncomputable def d_ib : BodyT := fun C D a h Q => match a with
  | [.slice p1 m2 m3, .string s4] => fN m2 fun m2 => fN m3 fun m3 => eqC (↑m2 : Int) 0 (Q (.string zS) h) (eqC (↑m2 : Int) 1 (XS p1 0 m2 1 h fun s9 => Q (.string s9) h) (gtC (↑(szE s4) : Int) 0 (bCE (decide (IntKind.wrap .i64 ((↑m2 : Int) - 1) = 0)) (False) (geC (↑(szE s4) : Int) (wI64 (Int.tdiv 9223372036854775807 (wI64 (subI (↑m2 : Int) 1)))) (False) (D f_ib 10 6293505 [.slice p1 m2 m3, .string s4, iv 0] h Q))) (D f_ib 12 47332919020095489 [.slice p1 m2 m3, .string s4, iv 0, .slice p1 m2 m3, iv (↑m2 : Int), iv 0] h Q)))
  | _ => False
noncomputable def d_id : BodyT := fun C D a h Q => match a with
  | [.slice p1 m2 m3, .string s4, .int .i64 n5, .slice p6 m7 m8, .int .i64 n9, .int .i64 n10] => fN m2 fun m2 => fN m3 fun m3 => fI n5 fun n5 => fN m7 fun m7 => fN m8 fun m8 => fI n9 fun n9 => fI n10 fun n10 => ltC n10 n9 (XS p6 n10 m7 1 h fun s15 => gtC (↑(szE s15) : Int) (wI64 (subI 9223372036854775807 n5)) (False) (D f_ib 16 48468909078729459713 [.slice p1 m2 m3, .string s4, iv n5, .string s15, .slice p6 m7 m8, iv n9, iv n10] h Q)) (nxK h fun i_1 => ad2 h (.pointer none) (.slice none 0 0) fun h_2 => tagK h_2 i_1 ty_strings_Builder fun h_3 => C f_fg [.pointer (some ⟨i_1, 0, none⟩), iv n5] h_3 fun v16 h17 => XS p1 0 m2 1 h17 fun s22 => C f_fm [.pointer (some ⟨i_1, 0, none⟩), .string s22] h17 fun v23 h24 => vTupE v23 fun l25 => CI l25 fun n28 l27 => lCE l27 fun v29 l30 => vIfcE v29 (lNE l30 (nBnd 1 m2 fun m31 => bCE (Nat.ble m2 m3) (oQ (shO p1 (m31 * 1)) fun p32 => D f_ib 22 72637627769858 [.string s4, .pointer (some ⟨i_1, 0, none⟩), .slice p32 (m2 - m31) (m3 - m31), iv (↑(m2 - m31) : Int), iv 0] h24 Q) (False))) fun m33 v34 => lNE l30 (nBnd 1 m2 fun m35 => bCE (Nat.ble m2 m3) (oQ (shO p1 (m35 * 1)) fun p36 => D f_ib 22 72637627769858 [.string s4, .pointer (some ⟨i_1, 0, none⟩), .slice p36 (m2 - m35) (m3 - m35), iv (↑(m2 - m35) : Int), iv 0] h24 Q) (False)))
  | _ => False
noncomputable def d_ie : BodyT := fun C D a h Q => match a with
  | [.slice p1 m2 m3, .string s4, .int .i64 n5, .string s6, .slice p7 m8 m9, .int .i64 n10, .int .i64 n11] => fN m2 fun m2 => fN m3 fun m3 => fI n5 fun n5 => fN m8 fun m8 => fN m9 fun m9 => fI n10 fun n10 => fI n11 fun n11 => D f_ib 12 47332919020095489 [.slice p1 m2 m3, .string s4, iv (wI64 (addI n5 (↑(szE s6) : Int))), .slice p7 m8 m9, iv n10, iv (wI64 (addI n11 1))] h Q
  | _ => False
noncomputable def d_if : BodyT := fun C D a h Q => match a with
  | [.string s1, .pointer (some ⟨m2, 0, none⟩), .slice p3 m4 m5, .int .i64 n6, .int .i64 n7] => fN m2 fun m2 => fN m4 fun m4 => fN m5 fun m5 => fI n6 fun n6 => fI n7 fun n7 => ltC n7 n6 (XS p3 n7 m4 1 h fun s12 => C f_fm [.pointer (some ⟨m2, 0, none⟩), .string s1] h fun v13 h14 => vTupE v13 fun l15 => CI l15 fun n18 l17 => lCE l17 fun v19 l20 => vIfcE v19 (lNE l20 (C f_fm [.pointer (some ⟨m2, 0, none⟩), .string s12] h14 fun v21 h22 => vTupE v21 fun l23 => CI l23 fun n26 l25 => lCE l25 fun v27 l28 => vIfcE v27 (lNE l28 (D f_ib 22 72637627769858 [.string s1, .pointer (some ⟨m2, 0, none⟩), .slice p3 m4 m5, iv n6, iv (wI64 (addI n7 1))] h22 Q)) fun m29 v30 => lNE l28 (D f_ib 22 72637627769858 [.string s1, .pointer (some ⟨m2, 0, none⟩), .slice p3 m4 m5, iv n6, iv (wI64 (addI n7 1))] h22 Q))) fun m31 v32 => lNE l20 (C f_fm [.pointer (some ⟨m2, 0, none⟩), .string s12] h14 fun v33 h34 => vTupE v33 fun l35 => CI l35 fun n38 l37 => lCE l37 fun v39 l40 => vIfcE v39 (lNE l40 (D f_ib 22 72637627769858 [.string s1, .pointer (some ⟨m2, 0, none⟩), .slice p3 m4 m5, iv n6, iv (wI64 (addI n7 1))] h34 Q)) fun m41 v42 => lNE l40 (D f_ib 22 72637627769858 [.string s1, .pointer (some ⟨m2, 0, none⟩), .slice p3 m4 m5, iv n6, iv (wI64 (addI n7 1))] h34 Q))) (C f_fk [.pointer (some ⟨m2, 0, none⟩)] h fun v43 h44 => vStrE v43 fun s45 => Q (.string s45) h44)
  | _ => False
noncomputable def d_ic : BodyT := fun C D a h Q => match a with
  | [.slice p1 m2 m3, .string s4, .int .i64 n5] => fN m2 fun m2 => fN m3 fun m3 => fI n5 fun n5 => D f_ib 12 47332919020095489 [.slice p1 m2 m3, .string s4, iv (wI64 (addI n5 (wI64 ((↑(szE s4) : Int) * IntKind.wrap .i64 ((↑m2 : Int) - 1))))), .slice p1 m2 m3, iv (↑m2 : Int), iv 0] h Q
  | _ => False
noncomputable def d_c7 : BodyT := fun C D a h Q => match a with
  | [.pointer (some ⟨m1, 0, none⟩), .pointer (some ⟨m2, 0, none⟩), .string s3, .pointer (some ⟨m4, 0, none⟩), .slice p5 m6 m7, .int .i64 n8, .int .i64 n9] => fN m1 fun m1 => fN m2 fun m2 => fN m4 fun m4 => fN m6 fun m6 => fN m7 fun m7 => fI n8 fun n8 => fI n9 fun n9 => ltC n9 n8 (XS p5 n9 m6 1 h fun s14 => C f_fu [.string s14, .string s3] h fun v15 h16 => vStrE v15 fun s17 => C f_fy [.string s17] h16 fun v18 h19 => vTupE v18 fun l20 => CS l20 fun s23 l22 => CI l22 fun n26 l25 => lNE l25 (neC n26 0 (wrLK m2 [.string zS, .slice none 0 0, .slice none 0 0, .slice none 0 0] h19 0 fun h27 => RS h27 m2 0 fun s29 => RL h27 m2 1 fun p31 m32 m33 => RL h27 m2 2 fun p35 m36 m37 => RL h27 m2 3 fun p39 m40 m41 => Q (.tuple #[.agg #[.string s29, .slice p31 m32 m33, .slice p35 m36 m37, .slice p39 m40 m41], .bool false]) h27) (RL h19 m4 2 fun p43 m44 m45 => C f_gl [.slice p43 m44 m45, .string s23] h19 fun v46 h47 => vBoolE v46 fun b48 => bCE (!b48) (RL h47 m4 2 fun p50 m51 m52 => ad1 h47 (.string s23) fun h_1 => nxK h47 fun i_2 => apK ty_string 1 16 h_1 (.slice p50 m51 m52) (.slice (some ⟨i_2, 0, none⟩) 1 1) fun v53 h54 => vSlE v53 fun p55 m56 m57 => wrK h54 m4 2 (.slice p55 m56 m57) fun h58 => D f_c6 6 45006763567728301059 [.pointer (some ⟨m1, 0, none⟩), .pointer (some ⟨m2, 0, none⟩), .string s3, .pointer (some ⟨m4, 0, none⟩), .slice p5 m6 m7, iv n8, iv (wI64 (addI n9 1))] h58 Q) (D f_c6 6 45006763567728301059 [.pointer (some ⟨m1, 0, none⟩), .pointer (some ⟨m2, 0, none⟩), .string s3, .pointer (some ⟨m4, 0, none⟩), .slice p5 m6 m7, iv n8, iv (wI64 (addI n9 1))] h47 Q)))) (RL h m1 2 fun p60 m61 m62 => D f_c6 16 78474170189833313285 [.pointer (some ⟨m2, 0, none⟩), .string s3, .pointer (some ⟨m4, 0, none⟩), .slice none 0 0, .slice p60 m61 m62, iv (↑m61 : Int), iv 0] h Q)
  | _ => False
noncomputable def d_ce : BodyT := fun C D a h Q => match a with
  | [.map p1] => C f_cz [.map p1] h fun v2 h3 => C f_gz [v2] h3 fun v4 h5 => vSlE v4 fun p6 m7 m8 => Q (.slice p6 m7 m8) h5
  | _ => False
noncomputable def d_al : BodyT := fun C D a h Q => match a with
  | [.slice p1 m2 m3, .int .i64 n4] => fN m2 fun m2 => fN m3 fun m3 => fI n4 fun n4 => D f_al 2 10746863618 [iv n4, .slice p1 m2 m3, iv (↑m2 : Int), iv 0] h Q
  | _ => False
noncomputable def d_am : BodyT := fun C D a h Q => match a with
  | [.int .i64 n1, .slice p2 m3 m4, .int .i64 n5, .int .i64 n6] => fI n1 fun n1 => fN m3 fun m3 => fN m4 fun m4 => fI n5 fun n5 => fI n6 fun n6 => ltC n6 n5 (aPE p2 fun m7 m8 => nIdx n6 m3 fun m9 => RI h m7 (m8 + m9 * 4) fun n11 => RL h m7 (m8 + m9 * 4 + 1) fun p13 m14 m15 => RI h m7 (m8 + m9 * 4 + 1 + 1) fun n17 => RL h m7 (m8 + m9 * 4 + 1 + 1 + 1) fun p19 m20 m21 => ad4 h (iv 0) (.slice none 0 0) (iv 0) (.slice none 0 0) fun h_1 => nxK h fun i_2 => wrLK i_2 [iv n11, .slice p13 m14 m15, iv n17, .slice p19 m20 m21] h_1 0 fun h22 => RI h22 i_2 0 fun n24 => ltC n24 1 (Q (.bool false) h22) (RI h22 i_2 0 fun n26 => gtC n26 12 (Q (.bool false) h22) (RI h22 i_2 0 fun n28 => RL h22 i_2 1 fun p30 m31 m32 => C f_ad [iv n28, iv (↑m31 : Int)] h22 fun v33 h34 => vBoolE v33 fun b35 => bCE (!b35) (Q (.bool false) h34) (RI h34 i_2 2 fun n37 => ltC n37 0 (Q (.bool false) h34) (RI h34 i_2 2 fun n39 => gtC n39 1000 (Q (.bool false) h34) (RI h34 i_2 2 fun n41 => gtC n41 0 (RI h34 i_2 0 fun n43 => neC n43 10 (Q (.bool false) h34) (RI h34 i_2 0 fun n45 => C f_ak [iv n45] h34 fun v46 h47 => vBoolE v46 fun b48 => bCE b48 (eqC n1 8 (Q (.bool false) h47) (RI h47 i_2 0 fun n50 => C f_ak [iv n50] h47 fun v51 h52 => vBoolE v51 fun b53 => bCE (!b53) (RL h52 i_2 3 fun p55 m56 m57 => gtC (↑m56 : Int) 0 (Q (.bool false) h52) (RL h52 i_2 3 fun p59 m60 m61 => C f_al [.slice p59 m60 m61, iv (wI64 (addI n1 1))] h52 fun v62 h63 => vBoolE v62 fun b64 => bCE (!b64) (Q (.bool false) h63) (D f_al 2 10746863618 [iv n1, .slice p2 m3 m4, iv n5, iv (wI64 (addI n6 1))] h63 Q))) (RL h52 i_2 3 fun p66 m67 m68 => C f_al [.slice p66 m67 m68, iv (wI64 (addI n1 1))] h52 fun v69 h70 => vBoolE v69 fun b71 => bCE (!b71) (Q (.bool false) h70) (D f_al 2 10746863618 [iv n1, .slice p2 m3 m4, iv n5, iv (wI64 (addI n6 1))] h70 Q)))) (RI h47 i_2 0 fun n73 => C f_ak [iv n73] h47 fun v74 h75 => vBoolE v74 fun b76 => bCE (!b76) (RL h75 i_2 3 fun p78 m79 m80 => gtC (↑m79 : Int) 0 (Q (.bool false) h75) (RL h75 i_2 3 fun p82 m83 m84 => C f_al [.slice p82 m83 m84, iv (wI64 (addI n1 1))] h75 fun v85 h86 => vBoolE v85 fun b87 => bCE (!b87) (Q (.bool false) h86) (D f_al 2 10746863618 [iv n1, .slice p2 m3 m4, iv n5, iv (wI64 (addI n6 1))] h86 Q))) (RL h75 i_2 3 fun p89 m90 m91 => C f_al [.slice p89 m90 m91, iv (wI64 (addI n1 1))] h75 fun v92 h93 => vBoolE v92 fun b94 => bCE (!b94) (Q (.bool false) h93) (D f_al 2 10746863618 [iv n1, .slice p2 m3 m4, iv n5, iv (wI64 (addI n6 1))] h93 Q))))) (RI h34 i_2 0 fun n96 => C f_ak [iv n96] h34 fun v97 h98 => vBoolE v97 fun b99 => bCE b99 (eqC n1 8 (Q (.bool false) h98) (RI h98 i_2 0 fun n101 => C f_ak [iv n101] h98 fun v102 h103 => vBoolE v102 fun b104 => bCE (!b104) (RL h103 i_2 3 fun p106 m107 m108 => gtC (↑m107 : Int) 0 (Q (.bool false) h103) (RL h103 i_2 3 fun p110 m111 m112 => C f_al [.slice p110 m111 m112, iv (wI64 (addI n1 1))] h103 fun v113 h114 => vBoolE v113 fun b115 => bCE (!b115) (Q (.bool false) h114) (D f_al 2 10746863618 [iv n1, .slice p2 m3 m4, iv n5, iv (wI64 (addI n6 1))] h114 Q))) (RL h103 i_2 3 fun p117 m118 m119 => C f_al [.slice p117 m118 m119, iv (wI64 (addI n1 1))] h103 fun v120 h121 => vBoolE v120 fun b122 => bCE (!b122) (Q (.bool false) h121) (D f_al 2 10746863618 [iv n1, .slice p2 m3 m4, iv n5, iv (wI64 (addI n6 1))] h121 Q)))) (RI h98 i_2 0 fun n124 => C f_ak [iv n124] h98 fun v125 h126 => vBoolE v125 fun b127 => bCE (!b127) (RL h126 i_2 3 fun p129 m130 m131 => gtC (↑m130 : Int) 0 (Q (.bool false) h126) (RL h126 i_2 3 fun p133 m134 m135 => C f_al [.slice p133 m134 m135, iv (wI64 (addI n1 1))] h126 fun v136 h137 => vBoolE v136 fun b138 => bCE (!b138) (Q (.bool false) h137) (D f_al 2 10746863618 [iv n1, .slice p2 m3 m4, iv n5, iv (wI64 (addI n6 1))] h137 Q))) (RL h126 i_2 3 fun p140 m141 m142 => C f_al [.slice p140 m141 m142, iv (wI64 (addI n1 1))] h126 fun v143 h144 => vBoolE v143 fun b145 => bCE (!b145) (Q (.bool false) h144) (D f_al 2 10746863618 [iv n1, .slice p2 m3 m4, iv n5, iv (wI64 (addI n6 1))] h144 Q)))))))))) (Q (.bool true) h)
  | _ => False
noncomputable def d_cw : BodyT := fun C D a h Q => match a with
  | [.int .u8 n1] => fI n1 fun n1 => eqC n1 34 (Q (.bool false) h) (eqC n1 35 (Q (.bool false) h) (eqC n1 58 (Q (.bool false) h) (eqC n1 61 (Q (.bool false) h) (eqC n1 92 (Q (.bool false) h) (gtC n1 32 (Q (.bool (decide (n1 < 127))) h) (Q (.bool false) h))))))
  | _ => False
noncomputable def d_i7 : BodyT := fun C D a h Q => match a with
  | [.string s1, .string s2] => C f_iv [.string s1, .string s2] h fun v3 h4 => vBoolE v3 fun b5 => Q (.bool b5) h4
  | _ => False
noncomputable def d_h8 : BodyT := fun C D a h Q => match a with
  | [.int .i64 n1] => fI n1 fun n1 => C f_d3 [.int .u64 (wU64 n1)] h fun v2 h3 => vIntE' .i64 v2 fun n4 => ltC n4 0 (False) (Q (.int .u64 (wU64 (1 * 2 ^ min (Int.toNat n4) 64))) h3)
  | _ => False
noncomputable def d_ap : BodyT := fun C D a h Q => match a with
  | [.int .i64 n1] => fI n1 fun n1 => ad13 h (.string zS) (.string zS) (.string zS) (.string zS) (.string zS) (.string zS) (.string zS) (.string zS) (.string zS) (.string zS) (.string zS) (.string zS) (.string zS) fun h_1 => nxK h fun i_2 => wrLK i_2 [.string zS, .string (ByteArray.mk #[110, 101, 101, 100]), .string (ByteArray.mk #[99, 97, 116]), .string (ByteArray.mk #[116, 101, 120, 116]), .string (ByteArray.mk #[117, 112, 112, 101, 114]), .string (ByteArray.mk #[115, 111, 114, 116]), .string (ByteArray.mk #[117, 110, 105, 113]), .string (ByteArray.mk #[99, 111, 117, 110, 116]), .string (ByteArray.mk #[119, 114, 105, 116, 101]), .string (ByteArray.mk #[102, 97, 105, 108]), .string (ByteArray.mk #[114, 101, 112, 101, 97, 116]), .string (ByteArray.mk #[101, 97, 99, 104]), .string (ByteArray.mk #[119, 104, 101, 110])] h_1 0 fun h2 => ltC n1 0 (Q (.string zS) h2) (geC n1 13 (Q (.string zS) h2) (nIdx n1 13 fun m3 => RS h2 i_2 (0 + m3 * 1) fun s5 => Q (.string s5) h2))
  | _ => False
noncomputable def d_h0 : BodyT := fun C D a h Q => match a with
  | [.slice p1 m2 m3] => fN m2 fun m2 => fN m3 fun m3 => nxK h fun i_1 => ad1 h (.slice p1 m2 m3) fun h_2 => Q (.func (Fn.func f_h1) #[] #[.pointer (some ⟨i_1, 0, none⟩)]) h_2
  | _ => False
noncomputable def d_be : BodyT := fun C D a h Q => match a with
  | [.string s1] => bCE (Nat.ble (szE s1 + 49) 9223372036854775807) (ad3 h (.slice none 0 0) (iv 0) (.slice none 0 0) fun h_1 => ad4 h_1 (.string (ByteArray.mk #[114])) (.string (s1 ++ ByteArray.mk #[10, 9, 99, 97, 116, 32, 97, 10, 9, 117, 112, 112, 101, 114, 10, 9, 119, 114, 105, 116, 101, 32, 98, 10, 114, 117, 108, 101, 32, 99, 32, 58, 10, 9, 99, 97, 116, 32, 98, 10, 9, 119, 114, 105, 116, 101, 32, 99, 10])) (.string (ByteArray.mk #[97])) (.string (ByteArray.mk #[120])) fun h_2 => ad1 h_2 (.string (ByteArray.mk #[99])) fun h_3 => nxK h fun i_4 => nxK h_1 fun i_5 => nxK h_2 fun i_6 => wrLK i_4 [.slice (some ⟨i_5, 0, none⟩) 2 2, iv 100, .slice (some ⟨i_6, 0, none⟩) 1 1] h_3 0 fun h2 => RL h2 i_4 0 fun p4 m5 m6 => RI h2 i_4 1 fun n8 => RL h2 i_4 2 fun p10 m11 m12 => Q (.agg #[.slice p4 m5 m6, iv n8, .slice p10 m11 m12]) h2) (False)
  | _ => False
noncomputable def d_bv : BodyT := fun C D a h Q => match a with
  | [.string s1] => C f_fv [.string s1] h fun v2 h3 => vBoolE v2 fun b4 => Q (.bool !b4) h3
  | _ => False
noncomputable def d_gu : BodyT := fun C D a h Q => match a with
  | [.slice p1 m2 m3, .func (Fn.func m4) x5 x6] => fN m2 fun m2 => fN m3 fun m3 => fN m4 fun m4 => D f_gu 2 9672067073 [.slice p1 m2 m3, .func (Fn.func m4) x5 x6, iv (↑m2 : Int), iv 0] h Q
  | _ => False
noncomputable def d_gv : BodyT := fun C D a h Q => match a with
  | [.slice p1 m2 m3, .func (Fn.func m4) x5 x6, .int .i64 n7, .int .i64 n8] => fN m2 fun m2 => fN m3 fun m3 => fN m4 fun m4 => fI n7 fun n7 => fI n8 fun n8 => ltC n8 n7 (XS p1 n8 m2 1 h fun s13 => C m4 (Array.toList x5 ++ .string s13 :: Array.toList x6) h fun v14 h15 => vBoolE v14 fun b16 => bCE b16 (Q (iv n8) h15) (D f_gu 2 9672067073 [.slice p1 m2 m3, .func (Fn.func m4) x5 x6, iv n7, iv (wI64 (addI n8 1))] h15 Q)) (Q (iv (Int.negSucc 0)) h)
  | _ => False
noncomputable def d_a7 : BodyT := fun C D a h Q => match a with
  | [.slice p1 m2 m3] => fN m2 fun m2 => fN m3 fun m3 => C f_a1 [.slice p1 m2 m3] h fun v4 h5 => vTupE v4 fun l6 => lCE l6 fun v7 l8 => vSlE v7 fun p9 m10 m11 => CI l8 fun n14 l13 => lNE l13 (neC n14 0 (Q (.tuple #[.string zS, iv n14]) h5) (nxK h5 fun i_1 => ad2 h5 (.pointer none) (.slice none 0 0) fun h_2 => tagK h_2 i_1 ty_strings_Builder fun h_3 => D f_a7 6 23644360711 [.pointer (some ⟨i_1, 0, none⟩), .slice p9 m10 m11, iv (↑m10 : Int), iv 0] h_3 Q))
  | _ => False
theorem kk_ev1 : (KE P d_dt f_ds 22 75939387027457) ∧ (KE P d_ib f_ib 0 0) ∧ (KE P d_id f_ib 13 47332919020095489) ∧ (KE P d_ie f_ib 17 48468909078729459713) ∧ (KE P d_if f_ib 23 72637627769858) ∧ (KE P d_ic f_ib 11 6293505) ∧ (KE P d_c7 f_c6 7 45006763567728301059) ∧ (KE P d_ce f_ce 0 0) ∧ (KE P d_al f_al 0 0) ∧ (KE P d_am f_al 3 10746863618) ∧ (KE P d_cw f_cw 0 0) ∧ (KE P d_i7 f_i7 0 0) ∧ (KE P d_h8 f_h8 0 0) ∧ (KE P d_ap f_ap 0 0) ∧ (KE P d_h0 f_h0 0 0) ∧ (KE P d_be f_be 0 0) ∧ (KE P d_bv f_bv 0 0) ∧ (KE P d_gu f_gu 0 0) ∧ (KE P d_gv f_gu 3 9672067073) ∧ (KE P d_a7 f_a7 0 0) := by
  refine ⟨?a0, ?a1, ?a2, ?a3, ?a4, ?a5, ?a6, ?a7, ?a8, ?a9, ?a10, ?a11, ?a12, ?a13, ?a14, ?a15, ?a16, ?a17, ?a18, ?a19⟩
  all_goals intro C D hC hD a h Q H
  case' a0 => unfold d_dt at H; split at H; refine r_dt ?_
  case' a1 => unfold d_ib at H; split at H; refine r_ib ?_
  case' a2 => unfold d_id at H; split at H; refine r_id ?_
  case' a3 => unfold d_ie at H; split at H; refine r_ie ?_
  case' a4 => unfold d_if at H; split at H; refine r_if ?_
  case' a5 => unfold d_ic at H; split at H; refine r_ic ?_
  case' a6 => unfold d_c7 at H; split at H; refine r_c7 ?_
  case' a7 => unfold d_ce at H; split at H; refine r_ce ?_
  case' a8 => unfold d_al at H; split at H; refine r_al ?_
  case' a9 => unfold d_am at H; split at H; refine r_am ?_
  case' a10 => unfold d_cw at H; split at H; refine r_cw ?_
  case' a11 => unfold d_i7 at H; split at H; refine r_i7 ?_
  case' a12 => unfold d_h8 at H; split at H; refine r_h8 ?_
  case' a13 => unfold d_ap at H; split at H; refine r_ap ?_
  case' a14 => unfold d_h0 at H; split at H; refine r_h0 ?_
  case' a15 => unfold d_be at H; split at H; refine r_be ?_
  case' a16 => unfold d_bv at H; split at H; refine r_bv ?_
  case' a17 => unfold d_gu at H; split at H; refine r_gu ?_
  case' a18 => unfold d_gv at H; split at H; refine r_gv ?_
  case' a19 => unfold d_a7 at H; split at H; refine r_a7 ?_
  all_goals try exact H.elim
  all_goals try simp only [wI64_eq, addI_eq, subI_eq, szE_eq, wU64_eq] at H
  all_goals revert H
  all_goals repeat' with_reducible first
 | refine qbr ti_ty_sl_string rfl ti_ty_string rfl rfl rfl ti_ty_sl_string rfl fun _ _ => ?_
 | refine qac ?_
 | refine qad ?_
 | refine qae ?_
 | refine qaf hC fun _ _ => ?_
 | refine qag hD (by decide)
 | refine qah (by with_unfolding_all rfl) (by with_unfolding_all rfl) ?_
 | refine qai ?_
 | refine qal ?_
 | refine qam fun _ => ?_
 | refine qan fun _ => ?_
 | refine qao fun _ => ?_
 | refine qaq fun _ => ?_
 | refine qar fun _ => ?_
 | refine qas fun _ => ?_
 | refine qat ?_ ?_
 | refine qav ?_ ?_
 | refine qaw ?_ ?_
 | refine qax ?_ ?_
 | refine qay ?_ ?_
 | refine qba fun _ => ?_
 | refine qbb fun _ _ _ => ?_
 | refine qbc fun _ => ?_
 | refine qbd fun _ _ => ?_
 | refine qbe ?_
 | refine qbf fun _ => ?_
 | refine qbh fun _ _ => ?_
 | refine qbj ?_ fun _ _ => ?_
 | refine qbn fun _ => ?_
 | refine qbo ?_
 | refine qbp ?_
 | refine qbq ?_ ?_
 | exact id
noncomputable def e_dt := en kk_ev1.1
noncomputable def e_ib := en kk_ev1.2.1
noncomputable def e_id := en kk_ev1.2.2.1
noncomputable def e_ie := en kk_ev1.2.2.2.1
noncomputable def e_if := en kk_ev1.2.2.2.2.1
noncomputable def e_ic := en kk_ev1.2.2.2.2.2.1
noncomputable def e_c7 := en kk_ev1.2.2.2.2.2.2.1
noncomputable def e_ce := en kk_ev1.2.2.2.2.2.2.2.1
noncomputable def e_al := en kk_ev1.2.2.2.2.2.2.2.2.1
noncomputable def e_am := en kk_ev1.2.2.2.2.2.2.2.2.2.1
noncomputable def e_cw := en kk_ev1.2.2.2.2.2.2.2.2.2.2.1
noncomputable def e_i7 := en kk_ev1.2.2.2.2.2.2.2.2.2.2.2.1
noncomputable def e_h8 := en kk_ev1.2.2.2.2.2.2.2.2.2.2.2.2.1
noncomputable def e_ap := en kk_ev1.2.2.2.2.2.2.2.2.2.2.2.2.2.1
noncomputable def e_h0 := en kk_ev1.2.2.2.2.2.2.2.2.2.2.2.2.2.2.1
noncomputable def e_be := en kk_ev1.2.2.2.2.2.2.2.2.2.2.2.2.2.2.2.1
noncomputable def e_bv := en kk_ev1.2.2.2.2.2.2.2.2.2.2.2.2.2.2.2.2.1
noncomputable def e_gu := en kk_ev1.2.2.2.2.2.2.2.2.2.2.2.2.2.2.2.2.2.1
noncomputable def e_gv := en kk_ev1.2.2.2.2.2.2.2.2.2.2.2.2.2.2.2.2.2.2.1
noncomputable def e_a7 := en kk_ev1.2.2.2.2.2.2.2.2.2.2.2.2.2.2.2.2.2.2.2
end
end Go.Proofs.YtkbioibemcmanaaGreatDoor.E
end

section
/- Bodies that the kernel can run, printed by a program of ours. -/
namespace Go.Proofs.YtkbioibemcmanaaGreatDoor.E
open Go.Abs
set_option maxRecDepth 100000
set_option maxHeartbeats 4000000
section
noncomputable def d_a9 : BodyT := fun C D a h Q => match a with
  | [.pointer (some ⟨m1, 0, none⟩), .slice p2 m3 m4, .int .i64 n5, .int .i64 n6] => fN m1 fun m1 => fN m3 fun m3 => fN m4 fun m4 => fI n5 fun n5 => fI n6 fun n6 => ltC n6 n5 (XL p2 n6 m3 1 h fun p11 m12 m13 => D f_a7 9 32312230037423149063 [.pointer (some ⟨m1, 0, none⟩), .slice p2 m3 m4, iv n5, iv n6, .slice p11 m12 m13, iv (↑m12 : Int), iv 0] h Q) (C f_fk [.pointer (some ⟨m1, 0, none⟩)] h fun v14 h15 => vStrE v14 fun s16 => Q (.tuple #[.string s16, iv 0]) h15)
  | _ => False
noncomputable def d_aa : BodyT := fun C D a h Q => match a with
  | [.pointer (some ⟨m1, 0, none⟩), .slice p2 m3 m4, .int .i64 n5, .int .i64 n6, .slice p7 m8 m9, .int .i64 n10, .int .i64 n11] => fN m1 fun m1 => fN m3 fun m3 => fN m4 fun m4 => fI n5 fun n5 => fI n6 fun n6 => fN m8 fun m8 => fN m9 fun m9 => fI n10 fun n10 => fI n11 fun n11 => ltC n11 n10 (XS p7 n11 m8 1 h fun s16 => gtC n11 0 (C f_fl [.pointer (some ⟨m1, 0, none⟩), .int .u8 32] h fun v17 h18 => vIfcE v17 (D f_a7 13 33087723558321304644615 [.pointer (some ⟨m1, 0, none⟩), .string s16, .slice p2 m3 m4, iv n5, iv n6, .slice p7 m8 m9, iv n10, iv n11] h18 Q) fun m19 v20 => D f_a7 13 33087723558321304644615 [.pointer (some ⟨m1, 0, none⟩), .string s16, .slice p2 m3 m4, iv n5, iv n6, .slice p7 m8 m9, iv n10, iv n11] h18 Q) (D f_a7 13 33087723558321304644615 [.pointer (some ⟨m1, 0, none⟩), .string s16, .slice p2 m3 m4, iv n5, iv n6, .slice p7 m8 m9, iv n10, iv n11] h Q)) (C f_fl [.pointer (some ⟨m1, 0, none⟩), .int .u8 10] h fun v21 h22 => vIfcE v21 (D f_a7 6 23644360711 [.pointer (some ⟨m1, 0, none⟩), .slice p2 m3 m4, iv n5, iv (wI64 (addI n6 1))] h22 Q) fun m23 v24 => D f_a7 6 23644360711 [.pointer (some ⟨m1, 0, none⟩), .slice p2 m3 m4, iv n5, iv (wI64 (addI n6 1))] h22 Q)
  | _ => False
noncomputable def d_a8 : BodyT := fun C D a h Q => match a with
  | [.pointer (some ⟨m1, 0, none⟩), .string s2, .slice p3 m4 m5, .int .i64 n6, .int .i64 n7, .slice p8 m9 m10, .int .i64 n11, .int .i64 n12] => fN m1 fun m1 => fN m4 fun m4 => fN m5 fun m5 => fI n6 fun n6 => fI n7 fun n7 => fN m9 fun m9 => fN m10 fun m10 => fI n11 fun n11 => fI n12 fun n12 => C f_cv [.string s2] h fun v13 h14 => vStrE v13 fun s15 => C f_fm [.pointer (some ⟨m1, 0, none⟩), .string s15] h14 fun v16 h17 => vTupE v16 fun l18 => CI l18 fun n21 l20 => lCE l20 fun v22 l23 => vIfcE v22 (lNE l23 (D f_a7 9 32312230037423149063 [.pointer (some ⟨m1, 0, none⟩), .slice p3 m4 m5, iv n6, iv n7, .slice p8 m9 m10, iv n11, iv (wI64 (addI n12 1))] h17 Q)) fun m24 v25 => lNE l23 (D f_a7 9 32312230037423149063 [.pointer (some ⟨m1, 0, none⟩), .slice p3 m4 m5, iv n6, iv n7, .slice p8 m9 m10, iv n11, iv (wI64 (addI n12 1))] h17 Q)
  | _ => False
noncomputable def d_a2 : BodyT := fun C D a h Q => match a with
  | [.slice p1 m2 m3] => fN m2 fun m2 => fN m3 fun m3 => C f_al [.slice p1 m2 m3, iv 0] h fun v4 h5 => vBoolE v4 fun b6 => bCE b6 (C f_ab [.slice p1 m2 m3] h5 fun v7 h8 => vIntE' .i64 v7 fun n9 => Q (.bool (decide (n9 ≤ 256))) h8) (Q (.bool false) h5)
  | _ => False
noncomputable def d_cd : BodyT := fun C D a h Q => match a with
  | [.map p1] => C f_cx [.map p1] h fun v2 h3 => C f_gz [v2] h3 fun v4 h5 => vSlE v4 fun p6 m7 m8 => Q (.slice p6 m7 m8) h5
  | _ => False
noncomputable def d_ab : BodyT := fun C D a h Q => match a with
  | [.slice p1 m2 m3] => fN m2 fun m2 => fN m3 fun m3 => D f_ab 3 11821655044 [iv (↑m2 : Int), .slice p1 m2 m3, iv (↑m2 : Int), iv 0] h Q
  | _ => False
noncomputable def d_ac : BodyT := fun C D a h Q => match a with
  | [.int .i64 n1, .slice p2 m3 m4, .int .i64 n5, .int .i64 n6] => fI n1 fun n1 => fN m3 fun m3 => fN m4 fun m4 => fI n5 fun n5 => fI n6 fun n6 => ltC n6 n5 (aPE p2 fun m7 m8 => nIdx n6 m3 fun m9 => RI h m7 (m8 + m9 * 4) fun n11 => RL h m7 (m8 + m9 * 4 + 1) fun p13 m14 m15 => RI h m7 (m8 + m9 * 4 + 1 + 1) fun n17 => RL h m7 (m8 + m9 * 4 + 1 + 1 + 1) fun p19 m20 m21 => ad4 h (iv 0) (.slice none 0 0) (iv 0) (.slice none 0 0) fun h_1 => nxK h fun i_2 => wrLK i_2 [iv n11, .slice p13 m14 m15, iv n17, .slice p19 m20 m21] h_1 0 fun h22 => RL h22 i_2 3 fun p24 m25 m26 => C f_ab [.slice p24 m25 m26] h22 fun v27 h28 => vIntE' .i64 v27 fun n29 => D f_ab 3 11821655044 [iv (wI64 (addI n1 n29)), .slice p2 m3 m4, iv n5, iv (wI64 (addI n6 1))] h28 Q) (Q (iv n1) h)
  | _ => False
noncomputable def d_fn : BodyT := fun C D a h Q => match a with
  | [.pointer p1] => GP p1 0 h fun p5 => bCE (Option.isNone p5) (oPK (convA P h ty_p_strings_Builder ty_unsafe_Pointer (.pointer p1)) fun v6 h7 => vPtrE v6 fun p8 => C f_a0 [.pointer p8] h7 fun v9 h10 => vPtrE v9 fun p11 => oPK (convA P h10 ty_unsafe_Pointer ty_p_strings_Builder (.pointer p11)) fun v12 h13 => vPtrE v12 fun p14 => WF p1 0 h13 (.pointer p14) fun h17 => Q (.tuple #[]) h17) (GP p1 0 h fun p21 => oQ (eqV P ty_p_strings_Builder false (.pointer p21) (.pointer p1)) fun b22 => bCE (!b22) (False) (Q (.tuple #[]) h))
  | _ => False
noncomputable def d_br : BodyT := fun C D a h Q => match a with
  | [.pointer p1, .pointer p2, .int .i64 n3, .slice p4 m5 m6] => fI n3 fun n3 => fN m5 fun m5 => fN m6 fun m6 => bCE (Option.isNone p1) (Q (.tuple #[.pointer none, iv 1]) h) (bCE (Option.isNone p2) (Q (.tuple #[.pointer none, iv 1]) h) (ltC n3 0 (Q (.tuple #[.pointer none, iv 2]) h) (gtC n3 65536 (Q (.tuple #[.pointer none, iv 2]) h) (C f_gk [.slice p4 m5 m6, .func (Fn.func f_bv) #[] #[]] h fun v7 h8 => vBoolE v7 fun b9 => bCE b9 (Q (.tuple #[.pointer none, iv 2]) h8) (addMK h8 fun h_1 => addMK h_1 fun h_2 => addMK h_2 fun h_3 => addMK h_3 fun h_4 => nxK h_4 fun i_5 => nxK h8 fun i_6 => nxK h_1 fun i_7 => nxK h_2 fun i_8 => nxK h_3 fun i_9 => ad6 h_4 (.pointer p1) (iv n3) (.map (some i_6)) (.map (some i_7)) (.map (some i_8)) (.map (some i_9)) fun h_10 => D f_br 7 53927658662914 [.pointer p2, .pointer (some ⟨i_5, 0, none⟩), .slice p4 m5 m6, iv (↑m5 : Int), iv 0] h_10 Q)))))
  | _ => False
noncomputable def d_bu : BodyT := fun C D a h Q => match a with
  | [.pointer p1, .pointer (some ⟨m2, 0, none⟩), .slice p3 m4 m5, .int .i64 n6, .int .i64 n7] => fN m2 fun m2 => fN m4 fun m4 => fN m5 fun m5 => fI n6 fun n6 => fI n7 fun n7 => ltC n7 n6 (XS p3 n7 m4 1 h fun s12 => C f_df [.pointer (some ⟨m2, 0, none⟩), .string s12, .pointer p1] h fun v13 h14 => vIntE' .i64 v13 fun n15 => neC n15 0 (Q (.tuple #[.pointer none, iv n15]) h14) (D f_br 7 53927658662914 [.pointer p1, .pointer (some ⟨m2, 0, none⟩), .slice p3 m4 m5, iv n6, iv (wI64 (addI n7 1))] h14 Q)) (D f_br 13 11266 [.pointer p1, .pointer (some ⟨m2, 0, none⟩)] h Q)
  | _ => False
noncomputable def d_bs : BodyT := fun C D a h Q => match a with
  | [.pointer p1, .pointer (some ⟨m2, 0, none⟩)] => fN m2 fun m2 => RM h m2 4 fun p4 => mlK h p4 fun l5 => RM h m2 5 fun p7 => C f_d1 [.map p7] h fun v8 h9 => C f_gz [v8] h9 fun v10 h11 => vSlE v10 fun p12 m13 m14 => D f_br 15 84244412712113679362 [.pointer p1, .pointer (some ⟨m2, 0, none⟩), iv 0, iv (↑(List.length l5) : Int), .slice p12 m13 m14, iv (↑m13 : Int), iv 0] h11 Q
  | _ => False
noncomputable def d_bt : BodyT := fun C D a h Q => match a with
  | [.pointer p1, .pointer (some ⟨m2, 0, none⟩), .int .i64 n3, .int .i64 n4, .slice p5 m6 m7, .int .i64 n8, .int .i64 n9] => fN m2 fun m2 => fI n3 fun n3 => fI n4 fun n4 => fN m6 fun m6 => fN m7 fun m7 => fI n8 fun n8 => fI n9 fun n9 => ltC n9 n8 (XS p5 n9 m6 1 h fun s14 => RM h m2 5 fun p16 => mlK h p16 fun l17 => lkS s14 (fun p18 => vPtrE (Option.getD p18 (.pointer none)) fun p19 => GB p19 6 h fun b23 => bCE b23 (D f_br 15 84244412712113679362 [.pointer p1, .pointer (some ⟨m2, 0, none⟩), iv n3, iv n4, .slice p5 m6 m7, iv n8, iv (wI64 (addI n9 1))] h Q) (C f_dk [.pointer (some ⟨m2, 0, none⟩), .pointer p19, .pointer p1] h fun v24 h25 => vIntE' .i64 v24 fun n26 => neC n26 0 (Q (.tuple #[.pointer none, iv n26]) h25) (GB p19 6 h25 fun b30 => bCE b30 (D f_br 15 84244412712113679362 [.pointer p1, .pointer (some ⟨m2, 0, none⟩), iv (wI64 (addI n3 1)), iv n4, .slice p5 m6 m7, iv n8, iv (wI64 (addI n9 1))] h25 Q) (D f_br 15 84244412712113679362 [.pointer p1, .pointer (some ⟨m2, 0, none⟩), iv n3, iv n4, .slice p5 m6 m7, iv n8, iv (wI64 (addI n9 1))] h25 Q)))) l17) (eqC n3 0 (RM h m2 4 fun p32 => mlK h p32 fun l33 => eqC (↑(List.length l33) : Int) n4 (Q (.tuple #[.pointer (some ⟨m2, 0, none⟩), iv 0]) h) (D f_br 13 11266 [.pointer p1, .pointer (some ⟨m2, 0, none⟩)] h Q)) (D f_br 13 11266 [.pointer p1, .pointer (some ⟨m2, 0, none⟩)] h Q))
  | _ => False
noncomputable def d_fv : BodyT := fun C D a h Q => match a with
  | [.string s1] => gtC (↑(szE s1) : Int) 60 (Q (.bool false) h) (D f_fv 3 1 [.string s1] h Q)
  | _ => False
noncomputable def d_fw : BodyT := fun C D a h Q => match a with
  | [.string s1] => C f_i5 [.string s1, .string (ByteArray.mk #[47])] h fun v2 h3 => vTupE v2 fun l4 => CS l4 fun s7 l6 => CS l6 fun s10 l9 => CB l9 fun b13 l12 => lNE l12 (C f_g3 [.string s7] h3 fun v14 h15 => vBoolE v14 fun b16 => bCE (!b16) (Q (.bool false) h15) (bCE (!b13) (Q (.bool true) h15) (D f_fv 3 1 [.string s10] h15 Q)))
  | _ => False
noncomputable def d_i5 : BodyT := fun C D a h Q => match a with
  | [.string s1, .string s2] => C f_it [.string s1, .string s2] h fun v3 h4 => vTupE v3 fun l5 => CS l5 fun s8 l7 => CS l7 fun s11 l10 => CB l10 fun b14 l13 => lNE l13 (Q (.tuple #[.string s8, .string s11, .bool b14]) h4)
  | _ => False
noncomputable def d_il : BodyT := fun C D a h Q => match a with
  | [.string s1, .string s2] => C f_io [.string s1, .string s2, iv (↑(szE s2) : Int), iv (Int.negSucc 0)] h fun v3 h4 => vSlE v3 fun p5 m6 m7 => Q (.slice p5 m6 m7) h4
  | _ => False
noncomputable def d_cj : BodyT := fun C D a h Q => match a with
  | [.slice p1 m2 m3] => fN m2 fun m2 => fN m3 fun m3 => C f_gf [.slice p1 m2 m3] h fun v4 h5 => vSlE v4 fun p6 m7 m8 => D f_cj 3 10494980 [.slice p6 m7 m8, iv (↑m7 : Int), iv 0] h5 Q
  | _ => False
noncomputable def d_ck : BodyT := fun C D a h Q => match a with
  | [.slice p1 m2 m3, .int .i64 n4, .int .i64 n5] => fN m2 fun m2 => fN m3 fun m3 => fI n4 fun n4 => fI n5 fun n5 => ltC n5 n4 (aPE p1 fun m6 m7 => nIdx n5 m2 fun m8 => RL h m6 (m7 + m8 * 4 + 1) fun p10 m11 m12 => C f_gh [.slice p10 m11 m12] h fun v13 h14 => vSlE v13 fun p15 m16 m17 => aPE p1 fun m18 m19 => nIdx n5 m2 fun m20 => RL h14 m18 (m19 + m20 * 4 + 3) fun p22 m23 m24 => C f_cj [.slice p22 m23 m24] h14 fun v25 h26 => vSlE v25 fun p27 m28 m29 => aPE p1 fun m30 m31 => nIdx n5 m2 fun m32 => wrK h26 m30 (m31 + m32 * 4 + 1) (.slice p15 m16 m17) fun h33 => aPE p1 fun m34 m35 => nIdx n5 m2 fun m36 => wrK h33 m34 (m35 + m36 * 4 + 3) (.slice p27 m28 m29) fun h37 => RL h m18 (m19 + m20 * 4 + 3) fun p39 m40 m41 => bCE (sameB (.slice p39 m40 m41) (.slice p22 m23 m24)) (D f_cj 3 10494980 [.slice p1 m2 m3, iv n4, iv (wI64 (addI n5 1))] h37 Q) False) (Q (.slice p1 m2 m3) h)
  | _ => False
noncomputable def d_cp : BodyT := fun C D a h Q => match a with
  | [.string s1] => gtC (↑(szE s1) : Int) 32768 (ad1 h (.slice none 0 0) fun h_1 => ad2 h_1 (iv 0) (iv 0) fun h_2 => nxK h fun i_3 => wrK h_2 i_3 0 (.slice none 0 0) fun h2 => nxK h_1 fun i_4 => wrLK i_4 [iv 3, iv 32768] h2 0 fun h3 => RL h3 i_3 0 fun p5 m6 m7 => RI h3 i_4 0 fun n9 => RI h3 i_4 1 fun n11 => Q (.tuple #[.slice p5 m6 m7, .agg #[iv n9, iv n11]]) h3) (ad1 h (.slice none 0 0) fun h_5 => ad2 h_5 (iv 0) (iv 0) fun h_6 => nxK h_6 fun i_7 => ad4 h_6 (.string s1) (iv 0) (iv 1) (iv 0) fun h_8 => C f_f5 [.pointer (some ⟨i_7, 0, none⟩)] h_8 fun v12 h13 => vSlE v12 fun p14 m15 m16 => nxK h fun i_9 => wrK h13 i_9 0 (.slice p14 m15 m16) fun h17 => nxK h_5 fun i_10 => wrLK i_10 [iv 0, iv 0] h17 0 fun h18 => RL h18 i_9 0 fun p20 m21 m22 => RI h18 i_10 0 fun n24 => RI h18 i_10 1 fun n26 => Q (.tuple #[.slice p20 m21 m22, .agg #[iv n24, iv n26]]) h18)
  | _ => False
noncomputable def d_gf : BodyT := fun C D a h Q => match a with
  | [.slice p1 m2 m3] => fN m2 fun m2 => fN m3 fun m3 => bCE (Option.isNone p1) (Q (.slice none 0 0) h) (ad0 h fun h_1 => nxK h fun i_2 => apK ty_api_Stmt 4 64 h_1 (.slice (some ⟨i_2, 0, none⟩) 0 0) (.slice p1 m2 m3) fun v4 h5 => vSlE v4 fun p6 m7 m8 => Q (.slice p6 m7 m8) h5)
  | _ => False
theorem kk_ev2 : (KE P d_a9 f_a7 7 23644360711) ∧ (KE P d_aa f_a7 10 32312230037423149063) ∧ (KE P d_a8 f_a7 14 33087723558321304644615) ∧ (KE P d_a2 f_a2 0 0) ∧ (KE P d_cd f_cd 0 0) ∧ (KE P d_ab f_ab 0 0) ∧ (KE P d_ac f_ab 4 11821655044) ∧ (KE P d_fn f_fn 0 0) ∧ (KE P d_br f_br 0 0) ∧ (KE P d_bu f_br 8 53927658662914) ∧ (KE P d_bs f_br 14 11266) ∧ (KE P d_bt f_br 16 84244412712113679362) ∧ (KE P d_fv f_fv 0 0) ∧ (KE P d_fw f_fv 4 1) ∧ (KE P d_i5 f_i5 0 0) ∧ (KE P d_il f_il 0 0) ∧ (KE P d_cj f_cj 0 0) ∧ (KE P d_ck f_cj 4 10494980) ∧ (KE P d_cp f_cp 0 0) ∧ (KE P d_gf f_gf 0 0) := by
  refine ⟨?a0, ?a1, ?a2, ?a3, ?a4, ?a5, ?a6, ?a7, ?a8, ?a9, ?a10, ?a11, ?a12, ?a13, ?a14, ?a15, ?a16, ?a17, ?a18, ?a19⟩
  all_goals intro C D hC hD a h Q H
  case' a0 => unfold d_a9 at H; split at H; refine r_a9 ?_
  case' a1 => unfold d_aa at H; split at H; refine r_aa ?_
  case' a2 => unfold d_a8 at H; split at H; refine r_a8 ?_
  case' a3 => unfold d_a2 at H; split at H; refine r_a2 ?_
  case' a4 => unfold d_cd at H; split at H; refine r_cd ?_
  case' a5 => unfold d_ab at H; split at H; refine r_ab ?_
  case' a6 => unfold d_ac at H; split at H; refine r_ac ?_
  case' a7 => unfold d_fn at H; split at H; refine r_fn ?_
  case' a8 => unfold d_br at H; split at H; refine r_br ?_
  case' a9 => unfold d_bu at H; split at H; refine r_bu ?_
  case' a10 => unfold d_bs at H; split at H; refine r_bs ?_
  case' a11 => unfold d_bt at H; split at H; refine r_bt ?_
  case' a12 => unfold d_fv at H; split at H; refine r_fv ?_
  case' a13 => unfold d_fw at H; split at H; refine r_fw ?_
  case' a14 => unfold d_i5 at H; split at H; refine r_i5 ?_
  case' a15 => unfold d_il at H; split at H; refine r_il ?_
  case' a16 => unfold d_cj at H; split at H; refine r_cj ?_
  case' a17 => unfold d_ck at H; split at H; refine r_ck ?_
  case' a18 => unfold d_cp at H; split at H; refine r_cp ?_
  case' a19 => unfold d_gf at H; split at H; refine r_gf ?_
  all_goals try exact H.elim
  all_goals try simp only [wI64_eq, addI_eq, szE_eq] at H
  all_goals revert H
  all_goals repeat' with_reducible first
 | refine qbr ti_ty_sl_api_Stmt rfl ti_ty_api_Stmt rfl rfl rfl ti_ty_sl_api_Stmt rfl fun _ _ => ?_
 | refine qaa fun _ => ?_
 | refine qab fun _ => ?_
 | refine qac ?_
 | refine qad ?_
 | refine qaf hC fun _ _ => ?_
 | refine qag hD (by decide)
 | refine qah (by with_unfolding_all rfl) (by with_unfolding_all rfl) ?_
 | refine qai ?_
 | refine qak ?_
 | refine qam fun _ => ?_
 | refine qan fun _ => ?_
 | refine qao fun _ => ?_
 | refine qaq fun _ => ?_
 | refine qas fun _ => ?_
 | refine qat ?_ ?_
 | refine qav ?_ ?_
 | refine qax ?_ ?_
 | refine qay ?_ ?_
 | refine qba fun _ => ?_
 | refine qbb fun _ _ _ => ?_
 | refine qbc fun _ => ?_
 | refine qbd fun _ _ => ?_
 | refine qbe ?_
 | refine qbf fun _ => ?_
 | refine qbg fun _ _ => ?_
 | refine qbh fun _ _ => ?_
 | refine qbi fun _ => ?_
 | refine qbj ?_ fun _ _ => ?_
 | refine qbl fun _ => ?_
 | refine qbn fun _ => ?_
 | refine qbo ?_
 | refine qbp ?_
 | refine qbq ?_ ?_
 | exact id
noncomputable def e_a9 := en kk_ev2.1
noncomputable def e_aa := en kk_ev2.2.1
noncomputable def e_a8 := en kk_ev2.2.2.1
noncomputable def e_a2 := en kk_ev2.2.2.2.1
noncomputable def e_cd := en kk_ev2.2.2.2.2.1
noncomputable def e_ab := en kk_ev2.2.2.2.2.2.1
noncomputable def e_ac := en kk_ev2.2.2.2.2.2.2.1
noncomputable def e_fn := en kk_ev2.2.2.2.2.2.2.2.1
noncomputable def e_br := en kk_ev2.2.2.2.2.2.2.2.2.1
noncomputable def e_bu := en kk_ev2.2.2.2.2.2.2.2.2.2.1
noncomputable def e_bs := en kk_ev2.2.2.2.2.2.2.2.2.2.2.1
noncomputable def e_bt := en kk_ev2.2.2.2.2.2.2.2.2.2.2.2.1
noncomputable def e_fv := en kk_ev2.2.2.2.2.2.2.2.2.2.2.2.2.1
noncomputable def e_fw := en kk_ev2.2.2.2.2.2.2.2.2.2.2.2.2.2.1
noncomputable def e_i5 := en kk_ev2.2.2.2.2.2.2.2.2.2.2.2.2.2.2.1
noncomputable def e_il := en kk_ev2.2.2.2.2.2.2.2.2.2.2.2.2.2.2.2.1
noncomputable def e_cj := en kk_ev2.2.2.2.2.2.2.2.2.2.2.2.2.2.2.2.2.1
noncomputable def e_ck := en kk_ev2.2.2.2.2.2.2.2.2.2.2.2.2.2.2.2.2.2.1
noncomputable def e_cp := en kk_ev2.2.2.2.2.2.2.2.2.2.2.2.2.2.2.2.2.2.2.1
noncomputable def e_gf := en kk_ev2.2.2.2.2.2.2.2.2.2.2.2.2.2.2.2.2.2.2.2
end
end Go.Proofs.YtkbioibemcmanaaGreatDoor.E
end
