/- A deterministic heap for the model, proved sound, and walks of the program over it: part 7. No condition. -/
import Derived.Test.YtamoepfiodgbbaaGreatDoorCa1
set_option linter.unusedVariables false
set_option linter.unusedSimpArgs false
set_option linter.unusedSectionVars false
section
/- Rules of walks, printed by a program of ours: group E1. -/
namespace Go.Proofs.YtamoepfiodgbbaaGreatDoor.E
open Go.Abs
set_option maxRecDepth 100000
variable {h : AW} {Q : Value → AW → Prop}
theorem r_c3 {s1 : ByteArray} (H : EvQ P f_c0 [.string s1] h fun v2 h3 => vBool v2 fun b4 => bC b4 (Q (.string s1) h3) (EvQ P f_c2
 [.string s1] h3 fun v5 h6 => vStr v5 fun s7 => Q (.string s7) h6)) : EvQ P f_c3 [.string s1] h Q := fo [] H (by kernel_rfl)
theorem r_c0 {s1 : ByteArray} (H : unitAt P f_c0 2 [0, 5, 6] [.string s1, .int .i64 (↑(ByteArray.size s1) : Int), .int
 .i64 0] h Q) : EvQ P f_c0 [.string s1] h Q := fo [(2,[0,5,6])] H (by kernel_rfl)
theorem r_c1 {s1 : ByteArray} {n2 n3 : Int} (H : bC (decide (n3 < n2)) (oB (natIdx n3 (ByteArray.size s1)) fun m4 => oB (bAt s1 m4) fun
 n5 => EvQ P f_c4 [.int .u8 n5] h fun v6 h7 => vBool v6 fun b8 => bC (!b8) (Q (.bool false) h7) (unitAt P f_c0 2 [0, 5, 6] [.string s1, .int .i64
 n2, .int .i64 (IntKind.wrap .i64 (n3 + 1))] h7 Q)) (Q (.bool !bEq s1 (ByteArray.mk #[])) h)) : unitAt P f_c0 2 [0, 5, 6] [.string s1, .int
 .i64 n2, .int .i64 n3] h Q := uo [(2,[0,5,6])] H (by kernel_rfl)
theorem r_br {s1 : ByteArray} {p2 : Option Addr} {m3 m4 : Nat} {p5 : Option Addr} {m6 m7 : Nat} {s8 : ByteArray} (H : oB (AW.rd
 (AW.addVar (AW.addVar h [.string s1, .slice p2 m3 m4, .slice p5 m6 m7]) [.string (ByteArray.mk #[]), .slice none 0 0, .slice none 0 0, .slice
 none 0 0]) (AW.next h) 0) fun v9 => vStr v9 fun s10 => EvQ P f_dn [.string s10, .string s8] (AW.addVar (AW.addVar h [.string s1, .slice p2 m3 m4, .slice
 p5 m6 m7]) [.string (ByteArray.mk #[]), .slice none 0 0, .slice none 0 0, .slice none 0 0]) fun v11 h12 => vTup v11 fun l13 => lC l13 fun v14 l15 => vStr v14
 fun s16 => lC l15 fun v17 l18 => vBool v17 fun b19 => lN l18 (bC (!b19) (oB (AW.wrL h12 (AW.next (AW.addVar h [.string s1, .slice p2 m3 m4, .slice p5 m6 m7])) 0
 [.string (ByteArray.mk #[]), .slice none 0 0, .slice none 0 0, .slice none 0 0]) fun h20 => oB (AW.rd h20 (AW.next (AW.addVar h [.string s1, .slice
 p2 m3 m4, .slice p5 m6 m7])) 0) fun v21 => vStr v21 fun s22 => oB (AW.rd h20 (AW.next (AW.addVar h [.string s1, .slice p2 m3 m4, .slice p5 m6 m7])) 1) fun v23
 => vSl v23 fun p24 m25 m26 => oB (AW.rd h20 (AW.next (AW.addVar h [.string s1, .slice p2 m3 m4, .slice p5 m6 m7])) 2) fun v27 => vSl v27 fun p28 m29 m30 => oB
 (AW.rd h20 (AW.next (AW.addVar h [.string s1, .slice p2 m3 m4, .slice p5 m6 m7])) 3) fun v31 => vSl v31 fun p32 m33 m34 => Q (.tuple (Array.mk [.agg
 (Array.mk [.string s22, .slice p24 m25 m26, .slice p28 m29 m30, .slice p32 m33 m34]), .bool false])) h20) (oB (AW.wrL (AW.addVar (AW.addVar h12
 [.string s8]) [.string (ByteArray.mk #[]), .slice none 0 0, .slice none 0 0, .slice none 0 0]) (AW.next (AW.addVar h12 [.string s8])) 0
 [.string s8, .slice (some ⟨(AW.next h12), 0, none⟩) 1 1, .slice none 0 0, .slice none 0 0]) fun h35 => oB (AW.rd h35 (AW.next h) 1) fun v36 => vSl v36
 fun p37 m38 m39 => unitAt P f_br 6 [2, 4, 6, 8, 36, 37, 38] [.pointer (some ⟨(AW.next h), 0, none⟩), .pointer (some (Addr.mk (AW.next (AW.addVar h [.string
 s1, .slice p2 m3 m4, .slice p5 m6 m7])) 0 none)), .string s16, .pointer (some (Addr.mk (AW.next (AW.addVar h12 [.string s8])) 0 none)), .slice p37
 m38 m39, .int .i64 (↑m38 : Int), .int .i64 0] h35 Q))) : EvQ P f_br [.agg (Array.mk [.string s1, .slice p2 m3 m4, .slice p5 m6 m7]),
 .string s8] h Q := fo [(6,[2,4,6,8,36,37,38]),(16,[4,6,8,13,65,66,67]),(20,[4,6,8,13,16,65,66,67,71,72,73])] H (by kernel_rfl)
theorem r_bt {m1 m2 : Nat} {s3 : ByteArray} {m4 : Nat} {p5 : Option Addr} {m6 m7 : Nat} {n8 n9 : Int} (H : bC (decide
 (n9 < n8)) (aP p5 fun m10 m11 => oB (natIdx n9 m6) fun m12 => oB (AW.rd h m10 (m11 + m12 * 1)) fun v13 => vStr v13 fun s14 => EvQ P f_dk [.string s14, .string s3] h fun
 v15 h16 => vStr v15 fun s17 => EvQ P f_do [.string s17] h16 fun v18 h19 => vTup v18 fun l20 => lC l20 fun v21 l22 => vStr v21 fun s23 => lC l22 fun v24 l25 => vInt
 .i64 v24 fun n26 => lN l25 (bC (n26 != 0) (oB (AW.wrL h19 m2 0 [.string (ByteArray.mk #[]), .slice none 0 0, .slice none 0 0, .slice none 0 0]) fun h27
 => oB (AW.rd h27 m2 0) fun v28 => vStr v28 fun s29 => oB (AW.rd h27 m2 1) fun v30 => vSl v30 fun p31 m32 m33 => oB (AW.rd h27 m2 2) fun v34 => vSl v34 fun p35 m36 m37 => oB
 (AW.rd h27 m2 3) fun v38 => vSl v38 fun p39 m40 m41 => Q (.tuple (Array.mk [.agg (Array.mk [.string s29, .slice p31 m32 m33, .slice p35 m36 m37,
 .slice p39 m40 m41]), .bool false])) h27) (oB (AW.rd h19 m4 2) fun v42 => vSl v42 fun p43 m44 m45 => EvQ P f_e7 [.slice p43 m44 m45, .string s23] h19 fun v46
 h47 => vBool v46 fun b48 => bC (!b48) (oB (AW.rd h47 m4 2) fun v49 => vSl v49 fun p50 m51 m52 => oP (appendB P (AW.addVar h47 [.string s23]) (Array.mk [ty_sl_string, ty_sl_string])
 [.slice p50 m51 m52, .slice (some ⟨(AW.next h47), 0, none⟩) 1 1]) fun v53 h54 => vSl v53 fun p55 m56 m57 => oB (AW.wr h54 m4 2 (.slice p55 m56 m57)) fun h58
 => unitAt P f_br 6 [2, 4, 6, 8, 36, 37, 38] [.pointer (some ⟨m1, 0, none⟩), .pointer (some ⟨m2, 0, none⟩), .string s3, .pointer (some (Addr.mk m4
 0 none)), .slice p5 m6 m7, .int .i64 n8, .int .i64 (IntKind.wrap .i64 (n9 + 1))] h58 Q) (unitAt P f_br 6 [2, 4, 6, 8, 36, 37, 38]
 [.pointer (some ⟨m1, 0, none⟩), .pointer (some ⟨m2, 0, none⟩), .string s3, .pointer (some ⟨m4, 0, none⟩), .slice p5 m6 m7, .int
 .i64 n8, .int .i64 (IntKind.wrap .i64 (n9 + 1))] h47 Q)))) (oB (AW.rd h m1 2) fun v59 => vSl v59 fun p60 m61 m62 => unitAt P f_br 16 [4, 6, 8, 13, 65,
 66, 67] [.pointer (some ⟨m2, 0, none⟩), .string s3, .pointer (some ⟨m4, 0, none⟩), .slice none 0 0, .slice p60 m61 m62, .int .i64
 (↑m61 : Int), .int .i64 0] h Q)) : unitAt P f_br 6 [2, 4, 6, 8, 36, 37, 38] [.pointer (some ⟨m1, 0, none⟩), .pointer (some ⟨m2, 0, none⟩),
 .string s3, .pointer (some ⟨m4, 0, none⟩), .slice p5 m6 m7, .int .i64 n8, .int .i64 n9] h Q := uo [(6,[2,4,6,8,36,37,38]),(16,[4,6,8,13,65,66,67]),(20,[4,6,8,13,16,65,66,67,71,72,73])] H (by kernel_rfl)
theorem r_bs {m1 : Nat} {s2 : ByteArray} {m3 : Nat} {p4 : Option Addr} {m5 m6 : Nat} {p7 : Option Addr} {m8 m9 : Nat} {n10 n11 : Int} (H : bC (decide (n11 < n10)) (aP p7 fun m12 m13 => oB (natIdx n11 m8) fun m14 => oB (AW.rd h m12 (m13 + m14 * 1)) fun v15 => vSl v15 fun p16 m17 m18 => unitAt
 P f_br 20 [4, 6, 8, 13, 16, 65, 66, 67, 71, 72, 73] [.pointer (some ⟨m1, 0, none⟩), .string s2, .pointer (some ⟨m3, 0, none⟩), .slice p4 m5 m6,
 .slice none 0 0, .slice p7 m8 m9, .int .i64 n10, .int .i64 n11, .slice p16 m17 m18, .int .i64 (↑m17 : Int), .int
 .i64 0] h Q) (EvQ P f_a3 [.slice p4 m5 m6] h fun v19 h20 => vTup v19 fun l21 => lC l21 fun v22 l23 => vSl v22 fun p24 m25 m26 => lC l23 fun v27 l28 => vAgg v27 fun
 l29 => lC l29 fun v30 l31 => vInt .i64 v30 fun n32 => lC l31 fun v33 l34 => vInt .i64 v33 fun n35 => lN l34 (lN l28 (oB (AW.wrL (AW.addVar h20 [.int
 .i64 0, .int .i64 0]) (AW.next h20) 0 [.int .i64 n32, .int .i64 n35]) fun h36 => oB (AW.wr h36 m3 3 (.slice p24 m25 m26)) fun h37
 => oB (AW.rd h37 (AW.next h20) 0) fun v38 => vInt .i64 v38 fun n39 => bC (n39 != 0) (oB (AW.wrL h37 m1 0 [.string (ByteArray.mk #[]), .slice none 0 0,
 .slice none 0 0, .slice none 0 0]) fun h40 => oB (AW.rd h40 m1 0) fun v41 => vStr v41 fun s42 => oB (AW.rd h40 m1 1) fun v43 => vSl v43 fun p44 m45 m46 => oB (AW.rd h40
 m1 2) fun v47 => vSl v47 fun p48 m49 m50 => oB (AW.rd h40 m1 3) fun v51 => vSl v51 fun p52 m53 m54 => Q (.tuple (Array.mk [.agg (Array.mk [.string s42, .slice
 p44 m45 m46, .slice p48 m49 m50, .slice p52 m53 m54]), .bool false])) h40) (oB (AW.rd h37 m3 0) fun v55 => vStr v55 fun s56 => oB (AW.rd h37 m3 1) fun v57 => vSl
 v57 fun p58 m59 m60 => oB (AW.rd h37 m3 2) fun v61 => vSl v61 fun p62 m63 m64 => oB (AW.rd h37 m3 3) fun v65 => vSl v65 fun p66 m67 m68 => EvQ P f_bj [.agg (Array.mk
 [.string s56, .slice p58 m59 m60, .slice p62 m63 m64, .slice p66 m67 m68])] h37 fun v69 h70 => vStr v69 fun s71 => bC (decide ((↑(ByteArray.size s71) : Int) >
 512)) (oB (AW.wrL h70 m1 0 [.string (ByteArray.mk #[]), .slice none 0 0, .slice none 0 0, .slice none 0 0]) fun h72 => oB (AW.rd h72 m1 0) fun v73 => vStr v73
 fun s74 => oB (AW.rd h72 m1 1) fun v75 => vSl v75 fun p76 m77 m78 => oB (AW.rd h72 m1 2) fun v79 => vSl v79 fun p80 m81 m82 => oB (AW.rd h72 m1 3) fun v83 => vSl v83 fun p84 m85
 m86 => Q (.tuple (Array.mk [.agg (Array.mk [.string s74, .slice p76 m77 m78, .slice p80 m81 m82, .slice p84 m85 m86]), .bool false])) h72) (oB
 (AW.rd h70 m3 0) fun v87 => vStr v87 fun s88 => oB (AW.rd h70 m3 1) fun v89 => vSl v89 fun p90 m91 m92 => oB (AW.rd h70 m3 2) fun v93 => vSl v93 fun p94 m95 m96 => oB (AW.rd h70
 m3 3) fun v97 => vSl v97 fun p98 m99 m100 => oB (AW.wrL h70 m1 0 [.string s88, .slice p90 m91 m92, .slice p94 m95 m96, .slice p98 m99 m100]) fun h101 => oB
 (AW.rd h101 m1 0) fun v102 => vStr v102 fun s103 => oB (AW.rd h101 m1 1) fun v104 => vSl v104 fun p105 m106 m107 => oB (AW.rd h101 m1 2) fun v108 => vSl v108 fun p109 m110 m111
 => oB (AW.rd h101 m1 3) fun v112 => vSl v112 fun p113 m114 m115 => Q (.tuple (Array.mk [.agg (Array.mk [.string s103, .slice p105 m106 m107, .slice p109
 m110 m111, .slice p113 m114 m115]), .bool true])) h101)))))) : unitAt P f_br 16 [4, 6, 8, 13, 65, 66, 67] [.pointer (some ⟨m1, 0, none⟩), .string s2,
 .pointer (some ⟨m3, 0, none⟩), .slice p4 m5 m6, .slice p7 m8 m9, .int .i64 n10, .int .i64 n11] h Q := uo [(6,[2,4,6,8,36,37,38]),(16,[4,6,8,13,65,66,67]),(20,[4,6,8,13,16,65,66,67,71,72,73])] H (by kernel_rfl)
theorem r_di {p1 : Option Addr} (H : aP p1 fun m2 m3 => oB (AW.rd h m2 m3) fun v4 => vPtr v4 fun p5 => bC (Option.isNone p5) (oP (convA P h ty_p_strings_Builder
 ty_unsafe_Pointer (.pointer p1)) fun v6 h7 => vPtr v6 fun p8 => EvQ P f_a0 [.pointer p8] h7 fun v9 h10 => vPtr v9 fun p11 => oP (convA P h10 ty_unsafe_Pointer ty_p_strings_Builder (.pointer p11)) fun
 v12 h13 => vPtr v12 fun p14 => aP p1 fun m15 m16 => oB (AW.wr h13 m15 m16 (.pointer p14)) fun h17 => Q (.tuple (Array.mk [])) h17) (aP p1 fun m18 m19 => oB (AW.rd h m18
 m19) fun v20 => vPtr v20 fun p21 => oB (eqV P ty_p_strings_Builder false (.pointer p21) (.pointer p1)) fun b22 => bC (!b22) False (Q (.tuple (Array.mk [])) h))) : EvQ P f_di
 [.pointer p1] h Q := fo [] H (by kernel_rfl)
theorem r_dk {s1 s2 : ByteArray} (H : EvQ P f_fh [.string s1, .string (ByteArray.mk #[37]), .string s2] h fun v3 h4
 => vStr v3 fun s5 => Q (.string s5) h4) : EvQ P f_dk [.string s1, .string s2] h Q := fo [] H (by kernel_rfl)
theorem r_f8 {s1 s2 : ByteArray} (H : EvQ P f_fv [.string s1, .string s2] h fun v3 h4 => vInt .i64 v3 fun n5 =>
 Q (.int .i64 n5) h4) : EvQ P f_f8 [.string s1, .string s2] h Q := fo [] H (by kernel_rfl)
theorem r_af {p1 : Option Addr} {m2 m3 : Nat} (H : unitAt P f_af 3 [3, 7, 8, 9] [.slice none 0 0, .slice p1 m2 m3, .int
 .i64 (↑m2 : Int), .int .i64 0] h Q) : EvQ P f_af [.slice p1 m2 m3] h Q := fo [(3,[3,7,8,9]),(8,[3,5,6,7,8,9])] H (by kernel_rfl)
theorem r_ag {p1 : Option Addr} {m2 m3 : Nat} {p4 : Option Addr} {m5 m6 : Nat} {n7 n8 : Int} (H : bC (decide (n8 <
 n7)) (aP p4 fun m9 m10 => oB (natIdx n8 m5) fun m11 => oB (AW.rd h m9 (m10 + m11 * 4)) fun v12 => vInt .i64 v12 fun n13 => oB (AW.rd h m9 (m10 + m11 * 4 + 1)) fun v14 =>
 vSl v14 fun p15 m16 m17 => oB (AW.rd h m9 (m10 + m11 * 4 + 1 + 1)) fun v18 => vInt .i64 v18 fun n19 => oB (AW.rd h m9 (m10 + m11 * 4 + 1 + 1 + 1)) fun v20 => vSl v20 fun
 p21 m22 m23 => oB (AW.wrL (AW.addVar h [.int .i64 0, .slice none 0 0, .int .i64 0, .slice none 0 0]) (AW.next h) 0 [.int .i64 n13,
 .slice p15 m16 m17, .int .i64 n19, .slice p21 m22 m23]) fun h24 => oB (AW.rd h24 (AW.next h) 0) fun v25 => vInt .i64 v25 fun n26 => EvQ P f_ao
 [.int .i64 n26] h24 fun v27 h28 => vStr v27 fun s29 => oB (AW.rd (AW.addVar h28 [.string s29]) (AW.next h) 1) fun v30 => vSl v30 fun p31 m32 m33 => oP (appendB P
 (AW.addVar h28 [.string s29]) (Array.mk [ty_sl_string, ty_sl_string]) [.slice (some ⟨(AW.next h28), 0, none⟩) 1 1, .slice p31 m32 m33]) fun v34 h35 => vSl v34 fun p36 m37
 m38 => oB (AW.rd h24 (AW.next h) 1) fun v39 => vSl v39 fun p40 m41 m42 => Value.slice p40 m41 m42 = .slice p31 m32 m33 ∧ oB (AW.rd h28 (AW.next h) 1) fun v43 => vSl v43 fun
 p44 m45 m46 => Value.slice p44 m45 m46 = .slice p31 m32 m33 ∧ oB (AW.rd h35 (AW.next h) 0) fun v47 => vInt .i64 v47 fun n48 => bC (n48 == 10) (oB (AW.rd h35 (AW.next
 h) 2) fun v49 => vInt .i64 v49 fun n50 => EvQ P f_ek [.int .i64 n50] h35 fun v51 h52 => vStr v51 fun s53 => oP (appendB P (AW.addVar h52 [.string s53])
 (Array.mk [ty_sl_string, ty_sl_string]) [.slice p36 m37 m38, .slice (some ⟨(AW.next h52), 0, none⟩) 1 1]) fun v54 h55 => vSl v54 fun p56 m57 m58 => unitAt P f_af 8 [3, 5, 6,
 7, 8, 9] [.slice p1 m2 m3, .pointer (some ⟨(AW.next h), 0, none⟩), .slice p56 m57 m58, .slice p4 m5 m6, .int .i64 n7, .int .i64
 n8] h55 Q) (unitAt P f_af 8 [3, 5, 6, 7, 8, 9] [.slice p1 m2 m3, .pointer (some ⟨(AW.next h), 0, none⟩), .slice p36 m37 m38, .slice p4 m5 m6, .int
 .i64 n7, .int .i64 n8] h35 Q)) (Q (.slice p1 m2 m3) h)) : unitAt P f_af 3 [3, 7, 8, 9] [.slice p1 m2 m3, .slice p4 m5 m6, .int .i64
 n7, .int .i64 n8] h Q := uo [(3,[3,7,8,9]),(8,[3,5,6,7,8,9])] H (by kernel_rfl)
theorem r_ah {p1 : Option Addr} {m2 m3 m4 : Nat} {p5 : Option Addr} {m6 m7 : Nat} {p8 : Option Addr} {m9 m10 : Nat} {n11 n12 : Int} (H : oP (appendB P (AW.addVar h [.slice p5 m6 m7]) (Array.mk [ty_sl_sl_string, ty_sl_sl_string]) [.slice p1 m2 m3, .slice (some (Addr.mk (AW.next h) 0
 none)) 1 1]) fun v13 h14 => vSl v13 fun p15 m16 m17 => oB (AW.rd h14 m4 0) fun v18 => vInt .i64 v18 fun n19 => EvQ P f_aj [.int .i64 n19] h14 fun v20 h21 =>
 vBool v20 fun b22 => bC b22 (oB (AW.rd h21 m4 3) fun v23 => vSl v23 fun p24 m25 m26 => EvQ P f_af [.slice p24 m25 m26] h21 fun v27 h28 => vSl v27 fun p29 m30 m31 => oP
 (appendB P h28 (Array.mk [ty_sl_sl_string, ty_sl_sl_string]) [.slice p15 m16 m17, .slice p29 m30 m31]) fun v32 h33 => vSl v32 fun p34 m35 m36 => oP (appendB P (AW.addVar (AW.addVar h33
 [.string (ByteArray.mk #[101, 110, 100])]) [.slice (some ⟨(AW.next h33), 0, none⟩) 1 1]) (Array.mk [ty_sl_sl_string, ty_sl_sl_string]) [.slice p34 m35 m36, .slice (some
 (Addr.mk (AW.next (AW.addVar h33 [.string (ByteArray.mk #[101, 110, 100])])) 0 none)) 1 1]) fun v37 h38 => vSl v37 fun p39 m40 m41 => unitAt P f_af 3 [3, 7, 8, 9]
 [.slice p39 m40 m41, .slice p8 m9 m10, .int .i64 n11, .int .i64 (IntKind.wrap .i64 (n12 + 1))] h38 Q) (unitAt P f_af 3 [3, 7, 8, 9]
 [.slice p15 m16 m17, .slice p8 m9 m10, .int .i64 n11, .int .i64 (IntKind.wrap .i64 (n12 + 1))] h21 Q)) : unitAt P f_af 8 [3, 5, 6, 7, 8,
 9] [.slice p1 m2 m3, .pointer (some ⟨m4, 0, none⟩), .slice p5 m6 m7, .slice p8 m9 m10, .int .i64 n11, .int .i64 n12] h Q := uo [(3,[3,7,8,9]),(8,[3,5,6,7,8,9])] H (by kernel_rfl)
end Go.Proofs.YtamoepfiodgbbaaGreatDoor.E
end

section
/- Rules of walks, printed by a program of ours: group E2. -/
namespace Go.Proofs.YtamoepfiodgbbaaGreatDoor.E
open Go.Abs
set_option maxRecDepth 100000
variable {h : AW} {Q : Value → AW → Prop}
theorem r_bn {m1 : Nat} {x2 : Array Value} {x3 : Array Value} {s4 : ByteArray} (H : EvQ P f_dl [.string s4] (AW.addVar h [.int
 .i64 0, .string (ByteArray.mk #[]), .int .i64 0, .int .i64 0]) fun v5 h6 => vBool v5 fun b7 => bC (!b7) (oB (AW.wrL h6 (AW.next h) 0
 [.int .i64 2, .string s4, .int .i64 0, .int .i64 0]) fun h8 => oB (AW.rd h8 (AW.next h) 0) fun v9 => vInt .i64 v9 fun n10 => oB
 (AW.rd h8 (AW.next h) 1) fun v11 => vStr v11 fun s12 => oB (AW.rd h8 (AW.next h) 2) fun v13 => vInt .i64 v13 fun n14 => oB (AW.rd h8 (AW.next h) 3) fun v15 => vInt
 .i64 v15 fun n16 => Q (.tuple (Array.mk [.pointer none, .agg (Array.mk [.int .i64 n10, .string s12, .int .i64 n14, .int
 .i64 n16])])) h8) (EvQ P m1 (Array.toList x2 ++ .string s4 :: Array.toList x3) h6 fun v17 h18 => vTup v17 fun l19 => lC l19 fun v20 l21 => vStr v20 fun s22 => lC l21
 fun v23 l24 => vBool v23 fun b25 => lN l24 (bC (!b25) (oB (AW.wrL h18 (AW.next h) 0 [.int .i64 4, .string s4, .int .i64 0, .int .i64 0])
 fun h26 => oB (AW.rd h26 (AW.next h) 0) fun v27 => vInt .i64 v27 fun n28 => oB (AW.rd h26 (AW.next h) 1) fun v29 => vStr v29 fun s30 => oB (AW.rd h26 (AW.next h) 2) fun
 v31 => vInt .i64 v31 fun n32 => oB (AW.rd h26 (AW.next h) 3) fun v33 => vInt .i64 v33 fun n34 => Q (.tuple (Array.mk [.pointer none, .agg (Array.mk
 [.int .i64 n28, .string s30, .int .i64 n32, .int .i64 n34])])) h26) (EvQ P f_cg [.pointer (some (Addr.mk (AW.next (AW.addMap
 (AW.addVar (AW.addMap (AW.addMap h18)) [.map (some (AW.next h18)), .map (some (AW.next (AW.addMap h18))), .slice none 0 0, .slice none 0 0]))) 0 none)),
 .string s4, .string s22] (AW.addVar (AW.addMap (AW.addVar (AW.addMap (AW.addMap h18)) [.map (some (AW.next h18)), .map (some (AW.next (AW.addMap h18))),
 .slice none 0 0, .slice none 0 0])) [.func (Fn.func m1) x2 x3, .pointer (some (Addr.mk (AW.next (AW.addMap (AW.addMap h18))) 0 none)), .map (some
 (AW.next (AW.addVar (AW.addMap (AW.addMap h18)) [.map (some (AW.next h18)), .map (some (AW.next (AW.addMap h18))), .slice none 0 0, .slice none 0 0]))),
 .int .i64 0, .int .i64 0, .slice none 0 0, .int .i64 0, .string (ByteArray.mk #[]), .int .i64 0, .int .i64
 0]) fun v35 h36 => vBool v35 fun b37 => bC (!b37) (oB (AW.rd h36 (AW.next (AW.addMap (AW.addVar (AW.addMap (AW.addMap h18)) [.map (some (AW.next h18)), .map (some
 (AW.next (AW.addMap h18))), .slice none 0 0, .slice none 0 0]))) 6) fun v38 => vInt .i64 v38 fun n39 => oB (AW.rd h36 (AW.next (AW.addMap (AW.addVar (AW.addMap
 (AW.addMap h18)) [.map (some (AW.next h18)), .map (some (AW.next (AW.addMap h18))), .slice none 0 0, .slice none 0 0]))) 7) fun v40 => vStr v40 fun s41 => oB
 (AW.rd h36 (AW.next (AW.addMap (AW.addVar (AW.addMap (AW.addMap h18)) [.map (some (AW.next h18)), .map (some (AW.next (AW.addMap h18))), .slice none 0 0,
 .slice none 0 0]))) 8) fun v42 => vInt .i64 v42 fun n43 => oB (AW.rd h36 (AW.next (AW.addMap (AW.addVar (AW.addMap (AW.addMap h18)) [.map (some (AW.next h18)),
 .map (some (AW.next (AW.addMap h18))), .slice none 0 0, .slice none 0 0]))) 9) fun v44 => vInt .i64 v44 fun n45 => oB (AW.wrL h36 (AW.next h) 0 [.int
 .i64 n39, .string s41, .int .i64 n43, .int .i64 n45]) fun h46 => oB (AW.rd h46 (AW.next h) 0) fun v47 => vInt .i64 v47 fun n48 => oB
 (AW.rd h46 (AW.next h) 1) fun v49 => vStr v49 fun s50 => oB (AW.rd h46 (AW.next h) 2) fun v51 => vInt .i64 v51 fun n52 => oB (AW.rd h46 (AW.next h) 3) fun v53 => vInt
 .i64 v53 fun n54 => Q (.tuple (Array.mk [.pointer none, .agg (Array.mk [.int .i64 n48, .string s50, .int .i64 n52, .int
 .i64 n54])])) h46) (oB (AW.rd h36 (AW.next (AW.addMap (AW.addVar (AW.addMap (AW.addMap h18)) [.map (some (AW.next h18)), .map (some (AW.next (AW.addMap h18))),
 .slice none 0 0, .slice none 0 0]))) 1) fun v55 => vPtr v55 fun p56 => oB (AW.wrL h36 (AW.next h) 0 [.int .i64 0, .string (ByteArray.mk #[]), .int
 .i64 0, .int .i64 0]) fun h57 => oB (AW.rd h57 (AW.next h) 0) fun v58 => vInt .i64 v58 fun n59 => oB (AW.rd h57 (AW.next h) 1) fun v60 => vStr v60 fun
 s61 => oB (AW.rd h57 (AW.next h) 2) fun v62 => vInt .i64 v62 fun n63 => oB (AW.rd h57 (AW.next h) 3) fun v64 => vInt .i64 v64 fun n65 => Q (.tuple (Array.mk
 [.pointer p56, .agg (Array.mk [.int .i64 n59, .string s61, .int .i64 n63, .int .i64 n65])])) h57))))) : EvQ P f_bn [.func
 (Fn.func m1) x2 x3, .string s4] h Q := fo [] H (by kernel_rfl)
theorem r_cg {p1 : Option Addr} {s2 s3 : ByteArray} (H : aP p1 fun m4 m5 => oB (AW.rd h m4 (m5 + 5)) fun v6 => vSl v6 fun p7 m8 m9
 => oP (appendB P (AW.addVar h [.string s2]) (Array.mk [ty_sl_string, ty_sl_string]) [.slice p7 m8 m9, .slice (some ⟨(AW.next h), 0, none⟩) 1 1]) fun v10 h11 => vSl v10 fun
 p12 m13 m14 => aP p1 fun m15 m16 => oB (AW.wr h11 m15 (m16 + 5) (.slice p12 m13 m14)) fun h17 => aP p1 fun m18 m19 => oB (AW.rd h17 m18 (m19 + 1)) fun v20 => vPtr v20 fun
 p21 => aP p21 fun m22 m23 => oB (AW.rd h17 m22 (m23 + 3)) fun v24 => vSl v24 fun p25 m26 m27 => EvQ P f_e7 [.slice p25 m26 m27, .string s2] h17 fun v28 h29 => vBool v28
 fun b30 => bC (!b30) (aP p1 fun m31 m32 => oB (AW.rd h29 m31 (m32 + 1)) fun v33 => vPtr v33 fun p34 => aP p1 fun m35 m36 => oB (AW.rd h29 m35 (m36 + 1)) fun v37 => vPtr v37 fun
 p38 => aP p38 fun m39 m40 => oB (AW.rd h29 m39 (m40 + 3)) fun v41 => vSl v41 fun p42 m43 m44 => oP (appendB P (AW.addVar h29 [.string s2]) (Array.mk [ty_sl_string, ty_sl_string])
 [.slice p42 m43 m44, .slice (some ⟨(AW.next h29), 0, none⟩) 1 1]) fun v45 h46 => vSl v45 fun p47 m48 m49 => aP p34 fun m50 m51 => oB (AW.wr h46 m50 (m51 + 3)
 (.slice p47 m48 m49)) fun h52 => oB (AW.rd (AW.addVar h29 [.string s2]) m31 (m32 + 1)) fun v53 => vPtr v53 fun p54 => Value.pointer p54 = .pointer p34 ∧ oB (AW.rd
 h46 m31 (m32 + 1)) fun v55 => vPtr v55 fun p56 => Value.pointer p56 = .pointer p34 ∧ oB (AW.rd (AW.addVar h29 [.string s2]) m35 (m36 + 1)) fun v57 => vPtr v57 fun p58
 => Value.pointer p58 = .pointer p38 ∧ oB (AW.rd (AW.addVar h29 [.string s2]) m39 (m40 + 3)) fun v59 => vSl v59 fun p60 m61 m62 => Value.slice p60 m61 m62 = .slice
 p42 m43 m44 ∧ unitAt P f_cg 4 [0, 2] [.pointer p1, .string s3] h52 Q) (unitAt P f_cg 4 [0, 2] [.pointer p1, .string s3] h29 Q)) : EvQ P f_cg [.pointer
 p1, .string s2, .string s3] h Q := fo [(4,[0,2]),(8,[0,66,67,68]),(21,[0,11,66,67,68])] H (by kernel_rfl)
theorem r_ci {p1 : Option Addr} {s2 : ByteArray} (H : EvQ P f_dw [.string s2] h fun v3 h4 => vTup v3 fun l5 => lC l5 fun v6 l7 => vSl v6
 fun p8 m9 m10 => lC l7 fun v11 l12 => vAgg v11 fun l13 => lC l13 fun v14 l15 => vInt .i64 v14 fun n16 => lC l15 fun v17 l18 => vStr v17 fun s19 => lC l18 fun v20 l21 =>
 vInt .i64 v20 fun n22 => lC l21 fun v23 l24 => vInt .i64 v23 fun n25 => lN l24 (lN l12 (oB (AW.wrL (AW.addVar h4 [.int .i64 0, .string
 (ByteArray.mk #[]), .int .i64 0, .int .i64 0]) (AW.next h4) 0 [.int .i64 n16, .string s19, .int .i64 n22, .int
 .i64 n25]) fun h26 => oB (AW.rd h26 (AW.next h4) 0) fun v27 => vInt .i64 v27 fun n28 => bC (n28 != 0) (oB (AW.rd h26 (AW.next h4) 0) fun v29 => vInt .i64 v29
 fun n30 => oB (AW.rd h26 (AW.next h4) 2) fun v31 => vInt .i64 v31 fun n32 => oB (AW.rd h26 (AW.next h4) 3) fun v33 => vInt .i64 v33 fun n34 => EvQ P f_cf
 [.pointer p1, .int .i64 n30, .agg (Array.mk [.string (ByteArray.mk #[]), .int .i64 n32, .int .i64 n34, .bool false,
 .bool false])] h26 fun v35 h36 => vBool v35 fun b37 => Q (.bool b37) h36) (unitAt P f_cg 8 [0, 66, 67, 68] [.pointer p1, .slice p8 m9 m10, .int
 .i64 (↑m9 : Int), .int .i64 0] h26 Q)))) : unitAt P f_cg 4 [0, 2] [.pointer p1, .string s2] h Q := uo [(4,[0,2]),(8,[0,66,67,68]),(21,[0,11,66,67,68])] H (by kernel_rfl)
theorem r_cj {p1 : Option Addr} {p2 : Option Addr} {m3 m4 : Nat} {n5 n6 : Int} (H : bC (decide (n6 < n5)) (aP p2 fun m7 m8 =>
 oB (natIdx n6 m3) fun m9 => oB (AW.rd h m7 (m8 + m9 * 6)) fun v10 => vInt .i64 v10 fun n11 => oB (AW.rd h m7 (m8 + m9 * 6 + 1)) fun v12 => vInt .i64 v12 fun n13 =>
 oB (AW.rd h m7 (m8 + m9 * 6 + 1 + 1)) fun v14 => vStr v14 fun s15 => oB (AW.rd h m7 (m8 + m9 * 6 + 1 + 1 + 1)) fun v16 => vSl v16 fun p17 m18 m19 => oB (AW.rd h m7 (m8 + m9 * 6 +
 1 + 1 + 1 + 1)) fun v20 => vSl v20 fun p21 m22 m23 => oB (AW.rd h m7 (m8 + m9 * 6 + 1 + 1 + 1 + 1 + 1)) fun v24 => vSl v24 fun p25 m26 m27 => oB (AW.wrL (AW.addVar h [.int
 .i64 0, .int .i64 0, .string (ByteArray.mk #[]), .slice none 0 0, .slice none 0 0, .slice none 0 0]) (AW.next h) 0 [.int .i64
 n11, .int .i64 n13, .string s15, .slice p17 m18 m19, .slice p21 m22 m23, .slice p25 m26 m27]) fun h28 => oB (AW.rd h28 (AW.next h) 0) fun v29 =>
 vInt .i64 v29 fun n30 => bC (n30 == 1) (oB (AW.rd h28 (AW.next h) 4) fun v31 => vSl v31 fun p32 m33 m34 => EvQ P f_cp [.pointer p1, .slice p32 m33 m34] h28 fun
 v35 h36 => vTup v35 fun l37 => lC l37 fun v38 l39 => vSl v38 fun p40 m41 m42 => lC l39 fun v43 l44 => vBool v43 fun b45 => lN l44 (bC b45 (aP p1 fun m46 m47 => oB (AW.rd h36 m46
 (m47 + 2)) fun v48 => vMap v48 fun p49 => oB (AW.rd h36 (AW.next h) 2) fun v50 => vStr v50 fun s51 => EvQ P f_bu [.slice p40 m41 m42] h36 fun v52 h53 => vSl v52 fun p54 m55
 m56 => oB (mapUpdV P h53 ty_map_string_sl_string (.map p49) (.string s51) (.slice p54 m55 m56)) fun h57 => oB (AW.rd h53 m46 (m47 + 2)) fun v58 => vMap v58 fun p59 => Value.map p59
 = .map p49 ∧ oB (AW.rd h53 (AW.next h) 2) fun v60 => vStr v60 fun s61 => Value.string s61 = .string s51 ∧ unitAt P f_cg 21 [0, 11, 66, 67, 68] [.pointer p1,
 .bool b45, .slice p2 m3 m4, .int .i64 n5, .int .i64 n6] h57 Q) (unitAt P f_cg 21 [0, 11, 66, 67, 68] [.pointer p1, .bool b45,
 .slice p2 m3 m4, .int .i64 n5, .int .i64 n6] h36 Q))) (bC (n30 == 2) (oB (AW.rd h28 (AW.next h) 0) fun v62 => vInt .i64 v62 fun n63 => oB
 (AW.rd h28 (AW.next h) 1) fun v64 => vInt .i64 v64 fun n65 => oB (AW.rd h28 (AW.next h) 2) fun v66 => vStr v66 fun s67 => oB (AW.rd h28 (AW.next h) 3) fun v68 => vSl v68
 fun p69 m70 m71 => oB (AW.rd h28 (AW.next h) 4) fun v72 => vSl v72 fun p73 m74 m75 => oB (AW.rd h28 (AW.next h) 5) fun v76 => vSl v76 fun p77 m78 m79 => EvQ P f_cs [.pointer
 p1, .agg (Array.mk [.int .i64 n63, .int .i64 n65, .string s67, .slice p69 m70 m71, .slice p73 m74 m75, .slice p77 m78 m79])] h28
 fun v80 h81 => vBool v80 fun b82 => unitAt P f_cg 21 [0, 11, 66, 67, 68] [.pointer p1, .bool b82, .slice p2 m3 m4, .int .i64 n5, .int .i64
 n6] h81 Q) (bC (n30 == 3) (oB (AW.rd h28 (AW.next h) 0) fun v83 => vInt .i64 v83 fun n84 => oB (AW.rd h28 (AW.next h) 1) fun v85 => vInt .i64 v85 fun n86 => oB
 (AW.rd h28 (AW.next h) 2) fun v87 => vStr v87 fun s88 => oB (AW.rd h28 (AW.next h) 3) fun v89 => vSl v89 fun p90 m91 m92 => oB (AW.rd h28 (AW.next h) 4) fun v93 => vSl v93 fun
 p94 m95 m96 => oB (AW.rd h28 (AW.next h) 5) fun v97 => vSl v97 fun p98 m99 m100 => EvQ P f_cu [.pointer p1, .agg (Array.mk [.int .i64 n84, .int
 .i64 n86, .string s88, .slice p90 m91 m92, .slice p94 m95 m96, .slice p98 m99 m100])] h28 fun v101 h102 => vBool v101 fun b103 => unitAt P f_cg 21 [0,
 11, 66, 67, 68] [.pointer p1, .bool b103, .slice p2 m3 m4, .int .i64 n5, .int .i64 n6] h102 Q) (unitAt P f_cg 21 [0, 11, 66, 67, 68]
 [.pointer p1, .bool false, .slice p2 m3 m4, .int .i64 n5, .int .i64 n6] h28 Q)))) (aP p1 fun m104 m105 => oB (AW.rd h m104 (m105 + 5)) fun
 v106 => vSl v106 fun p107 m108 m109 => aP p1 fun m110 m111 => oB (AW.rd h m110 (m111 + 5)) fun v112 => vSl v112 fun p113 m114 m115 => oB (natBnd (IntKind.wrap .i64 ((↑m114
 : Int) - 1)) m109) fun m116 => bC (Nat.ble m116 m109) (oB (shO p107 0) fun p117 => aP p1 fun m118 m119 => oB (AW.wr h m118 (m119 + 5) (.slice p117 (m116 - 0) (m109 - 0)))
 fun h120 => Q (.bool true) h120) False)) : unitAt P f_cg 8 [0, 66, 67, 68] [.pointer p1, .slice p2 m3 m4, .int .i64 n5, .int .i64 n6] h Q
 := uo [(4,[0,2]),(8,[0,66,67,68]),(21,[0,11,66,67,68])] H (by kernel_rfl)
theorem r_ch {p1 : Option Addr} {b2 : Bool} {p3 : Option Addr} {m4 m5 : Nat} {n6 n7 : Int} (H : bC (!b2) (Q (.bool false)
 h) (unitAt P f_cg 8 [0, 66, 67, 68] [.pointer p1, .slice p3 m4 m5, .int .i64 n6, .int .i64 (IntKind.wrap .i64 (n7 + 1))] h Q)) : unitAt P
 f_cg 21 [0, 11, 66, 67, 68] [.pointer p1, .bool b2, .slice p3 m4 m5, .int .i64 n6, .int .i64 n7] h Q := uo [(4,[0,2]),(8,[0,66,67,68]),(21,[0,11,66,67,68])] H (by kernel_rfl)
theorem r_f4 {s1 s2 : ByteArray} (H : EvQ P f_fr [.string s1, .string s2] h fun v3 h4 => vTup v3 fun l5 => lC l5 fun v6
 l7 => vStr v6 fun s8 => lC l7 fun v9 l10 => vStr v9 fun s11 => lC l10 fun v12 l13 => vBool v12 fun b14 => lN l13 (Q (.tuple (Array.mk [.string s8, .string s11,
 .bool b14])) h4)) : EvQ P f_f4 [.string s1, .string s2] h Q := fo [] H (by kernel_rfl)
theorem r_f3 {s1 s2 : ByteArray} (H : bC ((↑(ByteArray.size s2) : Int) == 0) (EvQ P f_fy [.string s1] h fun v3 h4 => vInt
 .i64 v3 fun n5 => Q (.int .i64 (IntKind.wrap .i64 (n5 + 1))) h4) (bC ((↑(ByteArray.size s2) : Int) == 1) (oB (natIdx 0 (ByteArray.size s2)) fun m6 => oB
 (bAt s2 m6) fun n7 => EvQ P f_b9 [.string s1, .int .u8 n7] h fun v8 h9 => vInt .i64 v8 fun n10 => Q (.int .i64 n10) h9) (unitAt P f_f3 6 [0,
 1, 5] [.string s1, .string s2, .int .i64 0] h Q))) : EvQ P f_f3 [.string s1, .string s2] h Q := fo [(6,[0,1,5])] H (by kernel_rfl)
theorem r_a3 {p1 : Option Addr} {m2 m3 : Nat} (H : oB (AW.wr (AW.addVar (AW.addVar (AW.addVar (AW.addVar h [.slice p1 m2 m3])
 [.int .i64 0, .int .i64 0]) [.int .i64 0]) [.int .i64 0]) (AW.next (AW.addVar (AW.addVar h [.slice p1 m2 m3]) [.int
 .i64 0, .int .i64 0])) 0 (.int .i64 0)) fun h4 => oB (AW.wr h4 (AW.next (AW.addVar (AW.addVar (AW.addVar h [.slice p1 m2 m3]) [.int
 .i64 0, .int .i64 0]) [.int .i64 0])) 0 (.int .i64 0)) fun h5 => oB (AW.wr (AW.addVar (AW.addVar h5 [.int .i64 0, .int
 .i64 0]) [.nilFunc]) (AW.next (AW.addVar h5 [.int .i64 0, .int .i64 0])) 0 (.func (Fn.func f_a4) (Array.mk []) (Array.mk [.pointer
 (some (Addr.mk (AW.next (AW.addVar (AW.addVar h [.slice p1 m2 m3]) [.int .i64 0, .int .i64 0])) 0 none)), .pointer (some (Addr.mk (AW.next h) 0
 none))]))) fun h6 => oB (AW.wr (AW.addVar h6 [.nilFunc]) (AW.next h6) 0 (.func (Fn.func f_a5) (Array.mk []) (Array.mk [.pointer (some (Addr.mk (AW.next h5) 0
 none)), .pointer (some (Addr.mk (AW.next (AW.addVar h5 [.int .i64 0, .int .i64 0])) 0 none)), .pointer (some (Addr.mk (AW.next (AW.addVar
 (AW.addVar h [.slice p1 m2 m3]) [.int .i64 0, .int .i64 0])) 0 none)), .pointer (some (Addr.mk (AW.next (AW.addVar (AW.addVar (AW.addVar h
 [.slice p1 m2 m3]) [.int .i64 0, .int .i64 0]) [.int .i64 0])) 0 none)), .pointer (some ⟨(AW.next h6), 0, none⟩)]))) fun h7 =>
 oB (AW.rd h7 (AW.next h6) 0) fun v8 => vFun v8 fun m9 l10 l11 => EvQ P m9 (l10 ++ .int .i64 0 :: l11) h7 fun v12 h13 => vSl v12 fun p14 m15 m16 => oB (AW.rd h13
 (AW.next h5) 0) fun v17 => vInt .i64 v17 fun n18 => bC (n18 != 0) (oB (AW.rd h13 (AW.next h5) 0) fun v19 => vInt .i64 v19 fun n20 => oB (AW.rd h13 (AW.next h5) 1)
 fun v21 => vInt .i64 v21 fun n22 => oB (AW.wrL h13 (AW.next (AW.addVar h [.slice p1 m2 m3])) 0 [.int .i64 n20, .int .i64 n22]) fun h23 => oB
 (AW.rd h23 (AW.next (AW.addVar h [.slice p1 m2 m3])) 0) fun v24 => vInt .i64 v24 fun n25 => oB (AW.rd h23 (AW.next (AW.addVar h [.slice p1 m2 m3])) 1) fun v26 =>
 vInt .i64 v26 fun n27 => Q (.tuple (Array.mk [.slice none 0 0, .agg (Array.mk [.int .i64 n25, .int .i64 n27])])) h23) (oB (AW.wrL
 h13 (AW.next (AW.addVar h [.slice p1 m2 m3])) 0 [.int .i64 0, .int .i64 0]) fun h28 => oB (AW.rd h28 (AW.next (AW.addVar h [.slice p1 m2 m3]))
 0) fun v29 => vInt .i64 v29 fun n30 => oB (AW.rd h28 (AW.next (AW.addVar h [.slice p1 m2 m3])) 1) fun v31 => vInt .i64 v31 fun n32 => Q (.tuple (Array.mk
 [.slice p14 m15 m16, .agg (Array.mk [.int .i64 n30, .int .i64 n32])])) h28)) : EvQ P f_a3 [.slice p1 m2 m3] h Q := fo [] H (by kernel_rfl)
end Go.Proofs.YtamoepfiodgbbaaGreatDoor.E
end

section
/- Rules of walks, printed by a program of ours: group E3. -/
namespace Go.Proofs.YtamoepfiodgbbaaGreatDoor.E
open Go.Abs
set_option maxRecDepth 100000
variable {h : AW} {Q : Value → AW → Prop}
theorem r_b4 {p1 : Option Addr} {m2 m3 : Nat} (H : Q (.func (Fn.func f_b5) (Array.mk []) (Array.mk [.pointer (some (Addr.mk
 (AW.next h) 0 none))])) (AW.addVar h [.slice p1 m2 m3])) : EvQ P f_b4 [.slice p1 m2 m3] h Q := fo [] H (by kernel_rfl)
theorem r_b5 {s1 : ByteArray} {m2 m3 : Nat} (H : oB (AW.rd h m2 m3) fun v4 => vSl v4 fun p5 m6 m7 => EvQ P f_b7 [.slice p5 m6 m7,
 .string s1] h fun v8 h9 => vTup v8 fun l10 => lC l10 fun v11 l12 => vStr v11 fun s13 => lC l12 fun v14 l15 => vBool v14 fun b16 => lN l15 (Q (.tuple (Array.mk
 [.string s13, .bool b16])) h9)) : EvQ P f_b5 [.string s1, .pointer (some ⟨m2, m3, none⟩)] h Q := fo [] H (by kernel_rfl)
theorem r_dt {s1 : ByteArray} (H : bC (bEq s1 (ByteArray.mk #[])) (Q (.bool false) h) (bC (decide ((↑(ByteArray.size s1) : Int) > 32)) (Q
 (.bool false) h) (bC (bEq s1 (ByteArray.mk #[46])) (Q (.bool false) h) (bC (bEq s1 (ByteArray.mk #[46, 46])) (Q (.bool false) h) (unitAt P f_dt 4 [0, 20, 21]
 [.string s1, .int .i64 (↑(ByteArray.size s1) : Int), .int .i64 0] h Q))))) : EvQ P f_dt [.string s1] h Q := fo [(4,[0,20,21])] H (by kernel_rfl)
theorem r_du {s1 : ByteArray} {n2 n3 : Int} (H : bC (decide (n3 < n2)) (oB (natIdx n3 (ByteArray.size s1)) fun m4 => oB (bAt s1 m4) fun
 n5 => EvQ P f_ds [.int .u8 n5] h fun v6 h7 => vBool v6 fun b8 => bC (!b8) (Q (.bool false) h7) (unitAt P f_dt 4 [0, 20, 21] [.string s1, .int
 .i64 n2, .int .i64 (IntKind.wrap .i64 (n3 + 1))] h7 Q)) (Q (.bool true) h)) : unitAt P f_dt 4 [0, 20, 21] [.string s1, .int .i64
 n2, .int .i64 n3] h Q := uo [(4,[0,20,21])] H (by kernel_rfl)
theorem r_fr {s1 s2 : ByteArray} (H : EvQ P f_fv [.string s1, .string s2] h fun v3 h4 => vInt .i64 v3 fun n5 =>
 bC (decide (n5 ≥ 0)) (oB (natBnd n5 (ByteArray.size s1)) fun m6 => oB (natBnd (IntKind.wrap .i64 (n5 + (↑(ByteArray.size s2) : Int))) (ByteArray.size s1)) fun m7 => Q
 (.tuple (Array.mk [.string (bSub s1 0 m6), .string (bSub s1 m7 (ByteArray.size s1)), .bool true])) h4) (Q (.tuple (Array.mk [.string s1,
 .string (ByteArray.mk #[]), .bool false])) h4)) : EvQ P f_fr [.string s1, .string s2] h Q := fo [] H (by kernel_rfl)
theorem r_e8 {p1 : Option Addr} {m2 m3 m4 : Nat} {x5 : Array Value} {x6 : Array Value} (H : unitAt P f_e8 2 [0, 1, 7, 8]
 [.slice p1 m2 m3, .func (Fn.func m4) x5 x6, .int .i64 (↑m2 : Int), .int .i64 0] h Q) : EvQ P f_e8 [.slice p1 m2 m3, .func (Fn.func
 m4) x5 x6] h Q := fo [(2,[0,1,7,8])] H (by kernel_rfl)
theorem r_e9 {p1 : Option Addr} {m2 m3 m4 : Nat} {x5 : Array Value} {x6 : Array Value} {n7 n8 : Int} (H : bC (decide
 (n8 < n7)) (aP p1 fun m9 m10 => oB (natIdx n8 m2) fun m11 => oB (AW.rd h m9 (m10 + m11 * 5)) fun v12 => vStr v12 fun s13 => oB (AW.rd h m9 (m10 + m11 * 5 + 1)) fun v14 => vInt
 .i64 v14 fun n15 => oB (AW.rd h m9 (m10 + m11 * 5 + 1 + 1)) fun v16 => vInt .i64 v16 fun n17 => oB (AW.rd h m9 (m10 + m11 * 5 + 1 + 1 + 1)) fun v18 => vBool v18 fun
 b19 => oB (AW.rd h m9 (m10 + m11 * 5 + 1 + 1 + 1 + 1)) fun v20 => vBool v20 fun b21 => EvQ P m4 (Array.toList x5 ++ .agg (Array.mk [.string s13, .int .i64
 n15, .int .i64 n17, .bool b19, .bool b21]) :: Array.toList x6) h fun v22 h23 => vBool v22 fun b24 => bC b24 (Q (.int .i64 n8) h23) (unitAt P
 f_e8 2 [0, 1, 7, 8] [.slice p1 m2 m3, .func (Fn.func m4) x5 x6, .int .i64 n7, .int .i64 (IntKind.wrap .i64 (n8 + 1))] h23 Q)) (Q
 (.int .i64 (Int.negSucc 0)) h)) : unitAt P f_e8 2 [0, 1, 7, 8] [.slice p1 m2 m3, .func (Fn.func m4) x5 x6, .int .i64 n7, .int .i64
 n8] h Q := uo [(2,[0,1,7,8])] H (by kernel_rfl)
theorem r_f5 {s1 s2 : ByteArray} (H : EvQ P f_fs [.string s1, .string s2] h fun v3 h4 => vTup v3 fun l5 => lC l5 fun v6
 l7 => vStr v6 fun s8 => lC l7 fun v9 l10 => vBool v9 fun b11 => lN l10 (Q (.tuple (Array.mk [.string s8, .bool b11])) h4)) : EvQ P f_f5 [.string s1,
 .string s2] h Q := fo [] H (by kernel_rfl)
end Go.Proofs.YtamoepfiodgbbaaGreatDoor.E
end

section
/- Rules of walks, printed by a program of ours: group E4. -/
namespace Go.Proofs.YtamoepfiodgbbaaGreatDoor.E
open Go.Abs
set_option maxRecDepth 100000
variable {h : AW} {Q : Value → AW → Prop}
theorem r_b7 {p1 : Option Addr} {m2 m3 : Nat} {s4 : ByteArray} (H : unitAt P f_b7 2 [0, 1, 6] [.slice p1 m2 m3, .string s4,
 .int .i64 0] h Q) : EvQ P f_b7 [.slice p1 m2 m3, .string s4] h Q := fo [(2,[0,1,6])] H (by kernel_rfl)
theorem r_b8 {p1 : Option Addr} {m2 m3 : Nat} {s4 : ByteArray} {n5 : Int} (H : bC (decide (n5 < (↑m2 : Int))) (aP p1 fun m6 m7 => oB
 (natIdx n5 m2) fun m8 => oB (AW.rd h m6 (m7 + m8 * 2)) fun v9 => vStr v9 fun s10 => bC (bEq s10 s4) (aP p1 fun m11 m12 => oB (natIdx n5 m2) fun m13 => oB (AW.rd h m11 (m12 + m13
 * 2 + 1)) fun v14 => vStr v14 fun s15 => Q (.tuple (Array.mk [.string s15, .bool true])) h) (unitAt P f_b7 2 [0, 1, 6] [.slice p1 m2 m3, .string s4,
 .int .i64 (IntKind.wrap .i64 (n5 + 1))] h Q)) (Q (.tuple (Array.mk [.string (ByteArray.mk #[]), .bool false])) h)) : unitAt P f_b7 2 [0, 1, 6]
 [.slice p1 m2 m3, .string s4, .int .i64 n5] h Q := uo [(2,[0,1,6])] H (by kernel_rfl)
theorem r_fa {p1 : Option Addr} {m2 m3 : Nat} {s4 : ByteArray} (H : bC ((↑m2 : Int) == 0) (Q (.string (ByteArray.mk #[])) h) (bC
 ((↑m2 : Int) == 1) (aP p1 fun m5 m6 => oB (natIdx 0 m2) fun m7 => oB (AW.rd h m5 (m6 + m7 * 1)) fun v8 => vStr v8 fun s9 => Q (.string s9) h) (bC (decide ((↑(ByteArray.size
 s4) : Int) > 0)) (bC (decide (IntKind.wrap .i64 ((↑m2 : Int) - 1) = 0)) False (bC (decide ((↑(ByteArray.size s4) : Int) ≥ IntKind.wrap .i64 (Int.tdiv
 9223372036854775807 (IntKind.wrap .i64 ((↑m2 : Int) - 1))))) False (unitAt P f_fa 10 [0, 1, 5] [.slice p1 m2 m3, .string s4, .int .i64 0] h Q)))
 (unitAt P f_fa 12 [0, 1, 5, 39, 40, 41] [.slice p1 m2 m3, .string s4, .int .i64 0, .slice p1 m2 m3, .int .i64 (↑m2 : Int), .int
 .i64 0] h Q)))) : EvQ P f_fa [.slice p1 m2 m3, .string s4] h Q := fo [(10,[0,1,5]),(12,[0,1,5,39,40,41]),(16,[0,1,5,7,39,40,41]),(22,[1,8,63,64,65])] H (by kernel_rfl)
theorem r_fc {p1 : Option Addr} {m2 m3 : Nat} {s4 : ByteArray} {n5 : Int} {p6 : Option Addr} {m7 m8 : Nat} {n9 n10 : Int} (H : bC (decide (n10 < n9)) (aP p6 fun m11 m12 => oB (natIdx n10 m7) fun m13 => oB (AW.rd h m11 (m12 + m13 * 1)) fun v14 => vStr v14 fun s15 => bC (decide
 ((↑(ByteArray.size s15) : Int) > IntKind.wrap .i64 (9223372036854775807 - n5))) False (unitAt P f_fa 16 [0, 1, 5, 7, 39, 40, 41] [.slice p1 m2 m3, .string s4,
 .int .i64 n5, .string s15, .slice p6 m7 m8, .int .i64 n9, .int .i64 n10] h Q)) (EvQ P f_db [.pointer (some (Addr.mk (AW.next h)
 0 none)), .int .i64 n5] (AW.tag (AW.addVar h [.pointer none, .slice none 0 0]) (AW.next h) ty_strings_Builder) fun v16 h17 => aP p1 fun m18 m19 => oB (natIdx 0 m2) fun
 m20 => oB (AW.rd h17 m18 (m19 + m20 * 1)) fun v21 => vStr v21 fun s22 => EvQ P f_dh [.pointer (some ⟨(AW.next h), 0, none⟩), .string s22] h17 fun v23 h24 => vTup
 v23 fun l25 => lC l25 fun v26 l27 => vInt .i64 v26 fun n28 => lC l27 fun v29 l30 => vIfc v29 (lN l30 (oB (natBnd 1 m2) fun m31 => bC (Nat.ble m2 m3) (oB (shO p1 (m31 * 1))
 fun p32 => unitAt P f_fa 22 [1, 8, 63, 64, 65] [.string s4, .pointer (some ⟨(AW.next h), 0, none⟩), .slice p32 (m2 - m31) (m3 - m31), .int .i64
 (↑(m2 - m31) : Int), .int .i64 0] h24 Q) False)) fun m33 v34 => lN l30 (oB (natBnd 1 m2) fun m35 => bC (Nat.ble m2 m3) (oB (shO p1 (m35 * 1)) fun p36 => unitAt P f_fa
 22 [1, 8, 63, 64, 65] [.string s4, .pointer (some ⟨(AW.next h), 0, none⟩), .slice p36 (m2 - m35) (m3 - m35), .int .i64 (↑(m2 - m35) : Int),
 .int .i64 0] h24 Q) False))) : unitAt P f_fa 12 [0, 1, 5, 39, 40, 41] [.slice p1 m2 m3, .string s4, .int .i64 n5, .slice p6 m7 m8,
 .int .i64 n9, .int .i64 n10] h Q := uo [(10,[0,1,5]),(12,[0,1,5,39,40,41]),(16,[0,1,5,7,39,40,41]),(22,[1,8,63,64,65])] H (by kernel_rfl)
theorem r_fd {p1 : Option Addr} {m2 m3 : Nat} {s4 : ByteArray} {n5 : Int} {s6 : ByteArray} {p7 : Option Addr} {m8 m9 : Nat} {n10 n11 : Int} (H : unitAt P f_fa 12 [0, 1, 5, 39, 40, 41] [.slice p1 m2 m3, .string s4, .int .i64 (IntKind.wrap .i64 (n5 + (↑(ByteArray.size
 s6) : Int))), .slice p7 m8 m9, .int .i64 n10, .int .i64 (IntKind.wrap .i64 (n11 + 1))] h Q) : unitAt P f_fa 16 [0, 1, 5, 7, 39, 40, 41]
 [.slice p1 m2 m3, .string s4, .int .i64 n5, .string s6, .slice p7 m8 m9, .int .i64 n10, .int .i64 n11] h Q := uo [(10,[0,1,5]),(12,[0,1,5,39,40,41]),(16,[0,1,5,7,39,40,41]),(22,[1,8,63,64,65])] H (by kernel_rfl)
theorem r_fe {s1 : ByteArray} {m2 : Nat} {p3 : Option Addr} {m4 m5 : Nat} {n6 n7 : Int} (H : bC (decide (n7 < n6)) (aP p3 fun
 m8 m9 => oB (natIdx n7 m4) fun m10 => oB (AW.rd h m8 (m9 + m10 * 1)) fun v11 => vStr v11 fun s12 => EvQ P f_dh [.pointer (some ⟨m2, 0, none⟩), .string s1] h fun
 v13 h14 => vTup v13 fun l15 => lC l15 fun v16 l17 => vInt .i64 v16 fun n18 => lC l17 fun v19 l20 => vIfc v19 (lN l20 (EvQ P f_dh [.pointer (some ⟨m2, 0, none⟩),
 .string s12] h14 fun v21 h22 => vTup v21 fun l23 => lC l23 fun v24 l25 => vInt .i64 v24 fun n26 => lC l25 fun v27 l28 => vIfc v27 (lN l28 (unitAt P f_fa 22 [1, 8, 63,
 64, 65] [.string s1, .pointer (some ⟨m2, 0, none⟩), .slice p3 m4 m5, .int .i64 n6, .int .i64 (IntKind.wrap .i64 (n7 + 1))] h22
 Q)) fun m29 v30 => lN l28 (unitAt P f_fa 22 [1, 8, 63, 64, 65] [.string s1, .pointer (some ⟨m2, 0, none⟩), .slice p3 m4 m5, .int .i64 n6,
 .int .i64 (IntKind.wrap .i64 (n7 + 1))] h22 Q))) fun m31 v32 => lN l20 (EvQ P f_dh [.pointer (some ⟨m2, 0, none⟩), .string s12] h14 fun v33 h34
 => vTup v33 fun l35 => lC l35 fun v36 l37 => vInt .i64 v36 fun n38 => lC l37 fun v39 l40 => vIfc v39 (lN l40 (unitAt P f_fa 22 [1, 8, 63, 64, 65] [.string s1,
 .pointer (some ⟨m2, 0, none⟩), .slice p3 m4 m5, .int .i64 n6, .int .i64 (IntKind.wrap .i64 (n7 + 1))] h34 Q)) fun m41 v42 => lN l40
 (unitAt P f_fa 22 [1, 8, 63, 64, 65] [.string s1, .pointer (some ⟨m2, 0, none⟩), .slice p3 m4 m5, .int .i64 n6, .int .i64
 (IntKind.wrap .i64 (n7 + 1))] h34 Q))) (EvQ P f_df [.pointer (some ⟨m2, 0, none⟩)] h fun v43 h44 => vStr v43 fun s45 => Q (.string s45) h44)) : unitAt P
 f_fa 22 [1, 8, 63, 64, 65] [.string s1, .pointer (some ⟨m2, 0, none⟩), .slice p3 m4 m5, .int .i64 n6, .int .i64 n7] h Q := uo [(10,[0,1,5]),(12,[0,1,5,39,40,41]),(16,[0,1,5,7,39,40,41]),(22,[1,8,63,64,65])] H (by kernel_rfl)
theorem r_fb {p1 : Option Addr} {m2 m3 : Nat} {s4 : ByteArray} {n5 : Int} (H : unitAt P f_fa 12 [0, 1, 5, 39, 40, 41] [.slice p1
 m2 m3, .string s4, .int .i64 (IntKind.wrap .i64 (n5 + IntKind.wrap .i64 ((↑(ByteArray.size s4) : Int) * IntKind.wrap .i64 ((↑m2 : Int) -
 1)))), .slice p1 m2 m3, .int .i64 (↑m2 : Int), .int .i64 0] h Q) : unitAt P f_fa 10 [0, 1, 5] [.slice p1 m2 m3, .string s4, .int
 .i64 n5] h Q := uo [(10,[0,1,5]),(12,[0,1,5,39,40,41]),(16,[0,1,5,7,39,40,41]),(22,[1,8,63,64,65])] H (by kernel_rfl)
theorem r_e0 {s1 : ByteArray} {n2 n3 : Int} {b4 b5 : Bool} (H : oB (AW.rd (AW.addVar h [.string s1, .int .i64
 n2, .int .i64 n3, .bool b4, .bool b5]) (AW.next h) 3) fun v6 => vBool v6 fun b7 => bC b7 (Q (.string (ByteArray.mk #[])) (AW.addVar h [.string s1,
 .int .i64 n2, .int .i64 n3, .bool b4, .bool b5])) (oB (AW.rd (AW.addVar h [.string s1, .int .i64 n2, .int .i64 n3,
 .bool b4, .bool b5]) (AW.next h) 4) fun v8 => vBool v8 fun b9 => bC b9 (Q (.string (ByteArray.mk #[])) (AW.addVar h [.string s1, .int .i64 n2,
 .int .i64 n3, .bool b4, .bool b5])) (oB (AW.rd (AW.addVar h [.string s1, .int .i64 n2, .int .i64 n3, .bool b4, .bool
 b5]) (AW.next h) 0) fun v10 => vStr v10 fun s11 => Q (.string s11) (AW.addVar h [.string s1, .int .i64 n2, .int .i64 n3, .bool b4,
 .bool b5])))) : EvQ P f_e0 [.agg (Array.mk [.string s1, .int .i64 n2, .int .i64 n3, .bool b4, .bool b5])] h Q := fo [] H (by kernel_rfl)
theorem r_ds {n1 : Int} (H : bC (decide (n1 ≥ 97)) (bC (decide (n1 ≤ 122)) (Q (.bool true) h) (bC (decide (n1 ≥ 48)) (bC (decide (n1 ≤ 57))
 (Q (.bool true) h) (bC (n1 == 95) (Q (.bool true) h) (bC (n1 == 46) (Q (.bool true) h) (bC (n1 == 45) (Q (.bool true) h) (Q (.bool false) h))))) (bC (n1
 == 95) (Q (.bool true) h) (bC (n1 == 46) (Q (.bool true) h) (bC (n1 == 45) (Q (.bool true) h) (Q (.bool false) h)))))) (bC (decide (n1 ≥ 48)) (bC (decide (n1
 ≤ 57)) (Q (.bool true) h) (bC (n1 == 95) (Q (.bool true) h) (bC (n1 == 46) (Q (.bool true) h) (bC (n1 == 45) (Q (.bool true) h) (Q (.bool false) h)))))
 (bC (n1 == 95) (Q (.bool true) h) (bC (n1 == 46) (Q (.bool true) h) (bC (n1 == 45) (Q (.bool true) h) (Q (.bool false) h)))))) : EvQ P f_ds [.int
 .u8 n1] h Q := fo [] H (by kernel_rfl)
theorem r_e2 {s1 : ByteArray} {n2 n3 : Int} {b4 b5 : Bool} (H : oB (AW.rd (AW.addVar h [.string s1, .int .i64
 n2, .int .i64 n3, .bool b4, .bool b5]) (AW.next h) 4) fun v6 => vBool v6 fun b7 => Q (.bool b7) (AW.addVar h [.string s1, .int .i64
 n2, .int .i64 n3, .bool b4, .bool b5])) : EvQ P f_e2 [.agg (Array.mk [.string s1, .int .i64 n2, .int .i64 n3, .bool
 b4, .bool b5])] h Q := fo [] H (by kernel_rfl)
end Go.Proofs.YtamoepfiodgbbaaGreatDoor.E
end

section
/- Rules of walks, printed by a program of ours: group E5. -/
namespace Go.Proofs.YtamoepfiodgbbaaGreatDoor.E
open Go.Abs
set_option maxRecDepth 100000
variable {h : AW} {Q : Value → AW → Prop}
theorem r_dw {s1 : ByteArray} (H : EvQ P f_bx [.string s1] (AW.addVar h [.int .i64 0, .string (ByteArray.mk #[]), .int
 .i64 0, .int .i64 0]) fun v2 h3 => vTup v2 fun l4 => lC l4 fun v5 l6 => vSl v5 fun p7 m8 m9 => lC l6 fun v10 l11 => vAgg v10 fun l12 => lC l12 fun v13 l14 =>
 vInt .i64 v13 fun n15 => lC l14 fun v16 l17 => vInt .i64 v16 fun n18 => lN l17 (lN l11 (oB (AW.wrL (AW.addVar h3 [.int .i64 0, .int .i64 0])
 (AW.next h3) 0 [.int .i64 n15, .int .i64 n18]) fun h19 => oB (AW.rd h19 (AW.next h3) 0) fun v20 => vInt .i64 v20 fun n21 => bC (n21 != 0) (oB
 (AW.rd h19 (AW.next h3) 1) fun v22 => vInt .i64 v22 fun n23 => EvQ P f_bz [.string s1, .int .i64 n23] h19 fun v24 h25 => vTup v24 fun l26 => lC l26 fun
 v27 l28 => vInt .i64 v27 fun n29 => lC l28 fun v30 l31 => vInt .i64 v30 fun n32 => lN l31 (oB (AW.rd h25 (AW.next h3) 0) fun v33 => vInt .i64 v33 fun n34 =>
 oB (AW.wrL h25 (AW.next h) 0 [.int .i64 n34, .string (ByteArray.mk #[]), .int .i64 n29, .int .i64 n32]) fun h35 => oB (AW.rd h35 (AW.next
 h) 0) fun v36 => vInt .i64 v36 fun n37 => oB (AW.rd h35 (AW.next h) 1) fun v38 => vStr v38 fun s39 => oB (AW.rd h35 (AW.next h) 2) fun v40 => vInt .i64 v40 fun n41
 => oB (AW.rd h35 (AW.next h) 3) fun v42 => vInt .i64 v42 fun n43 => Q (.tuple (Array.mk [.slice none 0 0, .agg (Array.mk [.int .i64 n37,
 .string s39, .int .i64 n41, .int .i64 n43])])) h35)) (unitAt P f_dw 7 [3, 8, 36, 37, 38] [.pointer (some ⟨(AW.next h), 0, none⟩),
 .slice none 0 0, .slice p7 m8 m9, .int .i64 (↑m8 : Int), .int .i64 0] h19 Q)))) : EvQ P f_dw [.string s1] h Q := fo [(7,[3,8,36,37,38])] H (by kernel_rfl)
theorem r_dx {m1 : Nat} {p2 : Option Addr} {m3 m4 : Nat} {p5 : Option Addr} {m6 m7 : Nat} {n8 n9 : Int} (H : bC (decide
 (n9 < n8)) (aP p5 fun m10 m11 => oB (natIdx n9 m6) fun m12 => oB (AW.rd h m10 (m11 + m12 * 3)) fun v13 => vInt .i64 v13 fun n14 => oB (AW.rd h m10 (m11 + m12 * 3 + 1)) fun
 v15 => vBool v15 fun b16 => oB (AW.rd h m10 (m11 + m12 * 3 + 1 + 1)) fun v17 => vSl v17 fun p18 m19 m20 => oB (AW.wrL (AW.addVar h [.int .i64 0, .bool false,
 .slice none 0 0]) (AW.next h) 0 [.int .i64 n14, .bool b16, .slice p18 m19 m20]) fun h21 => oB (AW.rd h21 (AW.next h) 1) fun v22 => vBool v22 fun b23 =>
 bC b23 (bC (decide ((↑m3 : Int) > 0)) (aP p2 fun m24 m25 => oB (natIdx (IntKind.wrap .i64 ((↑m3 : Int) - 1)) m3) fun m26 => oB (AW.rd h21 m24 (m25 + m26 * 6)) fun v27 =>
 vInt .i64 v27 fun n28 => bC (n28 == 3) (aP p2 fun m29 m30 => oB (natIdx (IntKind.wrap .i64 ((↑m3 : Int) - 1)) m3) fun m31 => oB (AW.rd h21 m29 (m30 + m31 * 6 + 5))
 fun v32 => vSl v32 fun p33 m34 m35 => oB (AW.rd h21 (AW.next h) 0) fun v36 => vInt .i64 v36 fun n37 => oB (AW.rd h21 (AW.next h) 1) fun v38 => vBool v38 fun b39 => oB
 (AW.rd h21 (AW.next h) 2) fun v40 => vSl v40 fun p41 m42 m43 => oP (appendB P (AW.addVar h21 [.int .i64 n37, .bool b39, .slice p41 m42 m43]) (Array.mk
 [ty_sl_api_Line, ty_sl_api_Line]) [.slice p33 m34 m35, .slice (some ⟨(AW.next h21), 0, none⟩) 1 1]) fun v44 h45 => vSl v44 fun p46 m47 m48 => aP p2 fun m49 m50 => oB (natIdx
 (IntKind.wrap .i64 ((↑m3 : Int) - 1)) m3) fun m51 => oB (AW.wr h45 m49 (m50 + m51 * 6 + 5) (.slice p46 m47 m48)) fun h52 => oB (AW.rd (AW.addVar h21 [.int
 .i64 n37, .bool b39, .slice p41 m42 m43]) m29 (m30 + m31 * 6 + 5)) fun v53 => vSl v53 fun p54 m55 m56 => Value.slice p54 m55 m56 = .slice p33 m34 m35 ∧
 unitAt P f_dw 7 [3, 8, 36, 37, 38] [.pointer (some ⟨m1, 0, none⟩), .slice p2 m3 m4, .slice p5 m6 m7, .int .i64 n8, .int .i64
 (IntKind.wrap .i64 (n9 + 1))] h52 Q) (oB (AW.rd h21 (AW.next h) 2) fun v57 => vSl v57 fun p58 m59 m60 => aP p58 fun m61 m62 => oB (natIdx 0 m59) fun m63 => oB (AW.rd h21
 m61 (m62 + m63 * 5)) fun v64 => vStr v64 fun s65 => oB (AW.rd h21 m61 (m62 + m63 * 5 + 1)) fun v66 => vInt .i64 v66 fun n67 => oB (AW.rd h21 m61 (m62 + m63 * 5 + 1 + 1))
 fun v68 => vInt .i64 v68 fun n69 => oB (AW.rd h21 m61 (m62 + m63 * 5 + 1 + 1 + 1)) fun v70 => vBool v70 fun b71 => oB (AW.rd h21 m61 (m62 + m63 * 5 + 1 + 1 + 1 + 1)) fun
 v72 => vBool v72 fun b73 => EvQ P f_e3 [.int .i64 120, .agg (Array.mk [.string s65, .int .i64 n67, .int .i64 n69, .bool b71,
 .bool b73])] h21 fun v74 h75 => vTup v74 fun l76 => lC l76 fun v77 l78 => vAgg v77 fun l79 => lC l79 fun v80 l81 => vInt .i64 v80 fun n82 => lC l81 fun v83 l84 =>
 vInt .i64 v83 fun n85 => lC l84 fun v86 l87 => vStr v86 fun s88 => lC l87 fun v89 l90 => vSl v89 fun p91 m92 m93 => lC l90 fun v94 l95 => vSl v94 fun p96 m97 m98 => lC l95
 fun v99 l100 => vSl v99 fun p101 m102 m103 => lN l100 (lC l78 fun v104 l105 => vAgg v104 fun l106 => lC l106 fun v107 l108 => vInt .i64 v107 fun n109 => lC l108 fun v110
 l111 => vStr v110 fun s112 => lC l111 fun v113 l114 => vInt .i64 v113 fun n115 => lC l114 fun v116 l117 => vInt .i64 v116 fun n118 => lN l117 (lN l105 (oB (AW.wrL
 (AW.addVar (AW.addVar h75 [.int .i64 0, .int .i64 0, .string (ByteArray.mk #[]), .slice none 0 0, .slice none 0 0, .slice none 0 0])
 [.int .i64 0, .string (ByteArray.mk #[]), .int .i64 0, .int .i64 0]) (AW.next h75) 0 [.int .i64 n82, .int .i64
 n85, .string s88, .slice p91 m92 m93, .slice p96 m97 m98, .slice p101 m102 m103]) fun h119 => oB (AW.wrL h119 (AW.next (AW.addVar h75 [.int .i64
 0, .int .i64 0, .string (ByteArray.mk #[]), .slice none 0 0, .slice none 0 0, .slice none 0 0])) 0 [.int .i64 n109, .string s112,
 .int .i64 n115, .int .i64 n118]) fun h120 => oB (AW.rd h120 (AW.next (AW.addVar h75 [.int .i64 0, .int .i64 0, .string
 (ByteArray.mk #[]), .slice none 0 0, .slice none 0 0, .slice none 0 0])) 0) fun v121 => vInt .i64 v121 fun n122 => oB (AW.rd h120 (AW.next (AW.addVar h75
 [.int .i64 0, .int .i64 0, .string (ByteArray.mk #[]), .slice none 0 0, .slice none 0 0, .slice none 0 0])) 1) fun v123 => vStr v123
 fun s124 => oB (AW.rd h120 (AW.next (AW.addVar h75 [.int .i64 0, .int .i64 0, .string (ByteArray.mk #[]), .slice none 0 0, .slice none 0 0,
 .slice none 0 0])) 2) fun v125 => vInt .i64 v125 fun n126 => oB (AW.rd h120 (AW.next (AW.addVar h75 [.int .i64 0, .int .i64 0, .string
 (ByteArray.mk #[]), .slice none 0 0, .slice none 0 0, .slice none 0 0])) 3) fun v127 => vInt .i64 v127 fun n128 => oB (AW.wrL h120 m1 0 [.int
 .i64 n122, .string s124, .int .i64 n126, .int .i64 n128]) fun h129 => oB (AW.rd h129 m1 0) fun v130 => vInt .i64 v130 fun n131 => oB
 (AW.rd h129 m1 1) fun v132 => vStr v132 fun s133 => oB (AW.rd h129 m1 2) fun v134 => vInt .i64 v134 fun n135 => oB (AW.rd h129 m1 3) fun v136 => vInt .i64 v136 fun
 n137 => Q (.tuple (Array.mk [.slice none 0 0, .agg (Array.mk [.int .i64 n131, .string s133, .int .i64 n135, .int .i64
 n137])])) h129))))) (oB (AW.rd h21 (AW.next h) 2) fun v138 => vSl v138 fun p139 m140 m141 => aP p139 fun m142 m143 => oB (natIdx 0 m140) fun m144 => oB (AW.rd h21 m142 (m143 +
 m144 * 5)) fun v145 => vStr v145 fun s146 => oB (AW.rd h21 m142 (m143 + m144 * 5 + 1)) fun v147 => vInt .i64 v147 fun n148 => oB (AW.rd h21 m142 (m143 + m144 * 5 + 1 + 1))
 fun v149 => vInt .i64 v149 fun n150 => oB (AW.rd h21 m142 (m143 + m144 * 5 + 1 + 1 + 1)) fun v151 => vBool v151 fun b152 => oB (AW.rd h21 m142 (m143 + m144 * 5 + 1 + 1 + 1
 + 1)) fun v153 => vBool v153 fun b154 => EvQ P f_e3 [.int .i64 120, .agg (Array.mk [.string s146, .int .i64 n148, .int .i64 n150,
 .bool b152, .bool b154])] h21 fun v155 h156 => vTup v155 fun l157 => lC l157 fun v158 l159 => vAgg v158 fun l160 => lC l160 fun v161 l162 => vInt .i64 v161 fun
 n163 => lC l162 fun v164 l165 => vInt .i64 v164 fun n166 => lC l165 fun v167 l168 => vStr v167 fun s169 => lC l168 fun v170 l171 => vSl v170 fun p172 m173 m174 => lC l171
 fun v175 l176 => vSl v175 fun p177 m178 m179 => lC l176 fun v180 l181 => vSl v180 fun p182 m183 m184 => lN l181 (lC l159 fun v185 l186 => vAgg v185 fun l187 => lC l187 fun v188
 l189 => vInt .i64 v188 fun n190 => lC l189 fun v191 l192 => vStr v191 fun s193 => lC l192 fun v194 l195 => vInt .i64 v194 fun n196 => lC l195 fun v197 l198 => vInt
 .i64 v197 fun n199 => lN l198 (lN l186 (oB (AW.wrL (AW.addVar (AW.addVar h156 [.int .i64 0, .int .i64 0, .string (ByteArray.mk #[]),
 .slice none 0 0, .slice none 0 0, .slice none 0 0]) [.int .i64 0, .string (ByteArray.mk #[]), .int .i64 0, .int .i64 0])
 (AW.next h156) 0 [.int .i64 n163, .int .i64 n166, .string s169, .slice p172 m173 m174, .slice p177 m178 m179, .slice p182 m183 m184])
 fun h200 => oB (AW.wrL h200 (AW.next (AW.addVar h156 [.int .i64 0, .int .i64 0, .string (ByteArray.mk #[]), .slice none 0 0, .slice none 0
 0, .slice none 0 0])) 0 [.int .i64 n190, .string s193, .int .i64 n196, .int .i64 n199]) fun h201 => oB (AW.rd h201 (AW.next
 (AW.addVar h156 [.int .i64 0, .int .i64 0, .string (ByteArray.mk #[]), .slice none 0 0, .slice none 0 0, .slice none 0 0])) 0) fun
 v202 => vInt .i64 v202 fun n203 => oB (AW.rd h201 (AW.next (AW.addVar h156 [.int .i64 0, .int .i64 0, .string (ByteArray.mk #[]), .slice
 none 0 0, .slice none 0 0, .slice none 0 0])) 1) fun v204 => vStr v204 fun s205 => oB (AW.rd h201 (AW.next (AW.addVar h156 [.int .i64 0, .int
 .i64 0, .string (ByteArray.mk #[]), .slice none 0 0, .slice none 0 0, .slice none 0 0])) 2) fun v206 => vInt .i64 v206 fun n207 => oB (AW.rd
 h201 (AW.next (AW.addVar h156 [.int .i64 0, .int .i64 0, .string (ByteArray.mk #[]), .slice none 0 0, .slice none 0 0, .slice none 0
 0])) 3) fun v208 => vInt .i64 v208 fun n209 => oB (AW.wrL h201 m1 0 [.int .i64 n203, .string s205, .int .i64 n207, .int .i64
 n209]) fun h210 => oB (AW.rd h210 m1 0) fun v211 => vInt .i64 v211 fun n212 => oB (AW.rd h210 m1 1) fun v213 => vStr v213 fun s214 => oB (AW.rd h210 m1 2) fun v215 => vInt
 .i64 v215 fun n216 => oB (AW.rd h210 m1 3) fun v217 => vInt .i64 v217 fun n218 => Q (.tuple (Array.mk [.slice none 0 0, .agg (Array.mk [.int
 .i64 n212, .string s214, .int .i64 n216, .int .i64 n218])])) h210))))) (oB (AW.rd h21 (AW.next h) 0) fun v219 => vInt .i64 v219 fun
 n220 => oB (AW.rd h21 (AW.next h) 1) fun v221 => vBool v221 fun b222 => oB (AW.rd h21 (AW.next h) 2) fun v223 => vSl v223 fun p224 m225 m226 => EvQ P f_dy [.agg (Array.mk
 [.int .i64 n220, .bool b222, .slice p224 m225 m226])] h21 fun v227 h228 => vTup v227 fun l229 => lC l229 fun v230 l231 => vAgg v230 fun l232 => lC l232 fun
 v233 l234 => vInt .i64 v233 fun n235 => lC l234 fun v236 l237 => vInt .i64 v236 fun n238 => lC l237 fun v239 l240 => vStr v239 fun s241 => lC l240 fun v242 l243 =>
 vSl v242 fun p244 m245 m246 => lC l243 fun v247 l248 => vSl v247 fun p249 m250 m251 => lC l248 fun v252 l253 => vSl v252 fun p254 m255 m256 => lN l253 (lC l231 fun v257 l258 =>
 vAgg v257 fun l259 => lC l259 fun v260 l261 => vInt .i64 v260 fun n262 => lC l261 fun v263 l264 => vStr v263 fun s265 => lC l264 fun v266 l267 => vInt .i64 v266 fun
 n268 => lC l267 fun v269 l270 => vInt .i64 v269 fun n271 => lN l270 (lN l258 (oB (AW.wrL (AW.addVar (AW.addVar h228 [.int .i64 0, .int .i64 0,
 .string (ByteArray.mk #[]), .slice none 0 0, .slice none 0 0, .slice none 0 0]) [.int .i64 0, .string (ByteArray.mk #[]), .int
 .i64 0, .int .i64 0]) (AW.next h228) 0 [.int .i64 n235, .int .i64 n238, .string s241, .slice p244 m245 m246, .slice p249
 m250 m251, .slice p254 m255 m256]) fun h272 => oB (AW.wrL h272 (AW.next (AW.addVar h228 [.int .i64 0, .int .i64 0, .string (ByteArray.mk #[]),
 .slice none 0 0, .slice none 0 0, .slice none 0 0])) 0 [.int .i64 n262, .string s265, .int .i64 n268, .int .i64 n271]) fun
 h273 => oB (AW.rd h273 (AW.next (AW.addVar h228 [.int .i64 0, .int .i64 0, .string (ByteArray.mk #[]), .slice none 0 0, .slice none 0 0,
 .slice none 0 0])) 0) fun v274 => vInt .i64 v274 fun n275 => bC (n275 != 0) (oB (AW.rd h273 (AW.next (AW.addVar h228 [.int .i64 0, .int .i64
 0, .string (ByteArray.mk #[]), .slice none 0 0, .slice none 0 0, .slice none 0 0])) 0) fun v276 => vInt .i64 v276 fun n277 => oB (AW.rd h273 (AW.next
 (AW.addVar h228 [.int .i64 0, .int .i64 0, .string (ByteArray.mk #[]), .slice none 0 0, .slice none 0 0, .slice none 0 0])) 1) fun
 v278 => vStr v278 fun s279 => oB (AW.rd h273 (AW.next (AW.addVar h228 [.int .i64 0, .int .i64 0, .string (ByteArray.mk #[]), .slice none 0 0,
 .slice none 0 0, .slice none 0 0])) 2) fun v280 => vInt .i64 v280 fun n281 => oB (AW.rd h273 (AW.next (AW.addVar h228 [.int .i64 0, .int
 .i64 0, .string (ByteArray.mk #[]), .slice none 0 0, .slice none 0 0, .slice none 0 0])) 3) fun v282 => vInt .i64 v282 fun n283 => oB (AW.wrL
 h273 m1 0 [.int .i64 n277, .string s279, .int .i64 n281, .int .i64 n283]) fun h284 => oB (AW.rd h284 m1 0) fun v285 => vInt .i64
 v285 fun n286 => oB (AW.rd h284 m1 1) fun v287 => vStr v287 fun s288 => oB (AW.rd h284 m1 2) fun v289 => vInt .i64 v289 fun n290 => oB (AW.rd h284 m1 3) fun v291 => vInt
 .i64 v291 fun n292 => Q (.tuple (Array.mk [.slice none 0 0, .agg (Array.mk [.int .i64 n286, .string s288, .int .i64 n290,
 .int .i64 n292])])) h284) (oB (AW.rd h273 (AW.next h228) 0) fun v293 => vInt .i64 v293 fun n294 => oB (AW.rd h273 (AW.next h228) 1) fun v295 => vInt
 .i64 v295 fun n296 => oB (AW.rd h273 (AW.next h228) 2) fun v297 => vStr v297 fun s298 => oB (AW.rd h273 (AW.next h228) 3) fun v299 => vSl v299 fun p300 m301 m302 => oB
 (AW.rd h273 (AW.next h228) 4) fun v303 => vSl v303 fun p304 m305 m306 => oB (AW.rd h273 (AW.next h228) 5) fun v307 => vSl v307 fun p308 m309 m310 => oP (appendB P (AW.addVar h273
 [.int .i64 n294, .int .i64 n296, .string s298, .slice p300 m301 m302, .slice p304 m305 m306, .slice p308 m309 m310]) (Array.mk [ty_sl_api_RuleItem,
 ty_sl_api_RuleItem]) [.slice p2 m3 m4, .slice (some ⟨(AW.next h273), 0, none⟩) 1 1]) fun v311 h312 => vSl v311 fun p313 m314 m315 => unitAt P f_dw 7 [3, 8, 36, 37, 38]
 [.pointer (some ⟨m1, 0, none⟩), .slice p313 m314 m315, .slice p5 m6 m7, .int .i64 n8, .int .i64 (IntKind.wrap .i64 (n9 + 1))]
 h312 Q)))))) (oB (AW.wrL h m1 0 [.int .i64 0, .string (ByteArray.mk #[]), .int .i64 0, .int .i64 0]) fun h316 => oB (AW.rd h316 m1 0) fun
 v317 => vInt .i64 v317 fun n318 => oB (AW.rd h316 m1 1) fun v319 => vStr v319 fun s320 => oB (AW.rd h316 m1 2) fun v321 => vInt .i64 v321 fun n322 => oB (AW.rd h316
 m1 3) fun v323 => vInt .i64 v323 fun n324 => Q (.tuple (Array.mk [.slice p2 m3 m4, .agg (Array.mk [.int .i64 n318, .string s320, .int
 .i64 n322, .int .i64 n324])])) h316)) : unitAt P f_dw 7 [3, 8, 36, 37, 38] [.pointer (some ⟨m1, 0, none⟩), .slice p2 m3 m4, .slice p5 m6
 m7, .int .i64 n8, .int .i64 n9] h Q := uo [(7,[3,8,36,37,38])] H (by kernel_rfl)
theorem r_dg {p1 : Option Addr} {n2 : Int} (H : EvQ P f_di [.pointer p1] h fun v3 h4 => aP p1 fun m5 m6 => oB (AW.rd h4 m5 (m6 + 1)) fun v7
 => vSl v7 fun p8 m9 m10 => oP (appendB P (AW.addVar h4 [.int .u8 n2]) (Array.mk [ty_sl_uint8, ty_sl_uint8]) [.slice p8 m9 m10, .slice (some (Addr.mk (AW.next h4) 0
 none)) 1 1]) fun v11 h12 => vSl v11 fun p13 m14 m15 => aP p1 fun m16 m17 => oB (AW.wr h12 m16 (m17 + 1) (.slice p13 m14 m15)) fun h18 => Q .nilIface h18) : EvQ P f_dg
 [.pointer p1, .int .u8 n2] h Q := fo [] H (by kernel_rfl)
theorem r_a7 {p1 : Option Addr} {m2 m3 : Nat} (H : EvQ P f_a1 [.slice p1 m2 m3] h fun v4 h5 => vTup v4 fun l6 => lC l6 fun v7 l8 =>
 vSl v7 fun p9 m10 m11 => lC l8 fun v12 l13 => vInt .i64 v12 fun n14 => lN l13 (bC (n14 != 0) (Q (.tuple (Array.mk [.string (ByteArray.mk #[]), .int
 .i64 n14])) h5) (unitAt P f_a7 6 [6, 19, 20, 21] [.pointer (some ⟨(AW.next h5), 0, none⟩), .slice p9 m10 m11, .int .i64 (↑m10 : Int), .int
 .i64 0] (AW.tag (AW.addVar h5 [.pointer none, .slice none 0 0]) (AW.next h5) ty_strings_Builder) Q))) : EvQ P f_a7 [.slice p1 m2 m3] h Q := fo [(6,[6,19,20,21]),(9,[6,19,20,21,25,26,27]),(13,[6,10,19,20,21,25,26,27])] H (by kernel_rfl)
theorem r_a9 {m1 : Nat} {p2 : Option Addr} {m3 m4 : Nat} {n5 n6 : Int} (H : bC (decide (n6 < n5)) (aP p2 fun m7 m8 => oB
 (natIdx n6 m3) fun m9 => oB (AW.rd h m7 (m8 + m9 * 1)) fun v10 => vSl v10 fun p11 m12 m13 => unitAt P f_a7 9 [6, 19, 20, 21, 25, 26, 27] [.pointer (some (Addr.mk m1 0
 none)), .slice p2 m3 m4, .int .i64 n5, .int .i64 n6, .slice p11 m12 m13, .int .i64 (↑m12 : Int), .int .i64 0] h Q) (EvQ
 P f_df [.pointer (some ⟨m1, 0, none⟩)] h fun v14 h15 => vStr v14 fun s16 => Q (.tuple (Array.mk [.string s16, .int .i64 0])) h15)) : unitAt P
 f_a7 6 [6, 19, 20, 21] [.pointer (some ⟨m1, 0, none⟩), .slice p2 m3 m4, .int .i64 n5, .int .i64 n6] h Q := uo [(6,[6,19,20,21]),(9,[6,19,20,21,25,26,27]),(13,[6,10,19,20,21,25,26,27])] H (by kernel_rfl)
theorem r_aa {m1 : Nat} {p2 : Option Addr} {m3 m4 : Nat} {n5 n6 : Int} {p7 : Option Addr} {m8 m9 : Nat} {n10 n11 : Int} (H : bC (decide (n11 < n10)) (aP p7 fun m12 m13 => oB (natIdx n11 m8) fun m14 => oB (AW.rd h m12 (m13 + m14 * 1)) fun v15 => vStr v15 fun s16 => bC (decide (n11 > 0))
 (EvQ P f_dg [.pointer (some ⟨m1, 0, none⟩), .int .u8 32] h fun v17 h18 => vIfc v17 (unitAt P f_a7 13 [6, 10, 19, 20, 21, 25, 26, 27] [.pointer (some
 ⟨m1, 0, none⟩), .string s16, .slice p2 m3 m4, .int .i64 n5, .int .i64 n6, .slice p7 m8 m9, .int .i64 n10, .int
 .i64 n11] h18 Q) fun m19 v20 => unitAt P f_a7 13 [6, 10, 19, 20, 21, 25, 26, 27] [.pointer (some ⟨m1, 0, none⟩), .string s16, .slice p2 m3 m4,
 .int .i64 n5, .int .i64 n6, .slice p7 m8 m9, .int .i64 n10, .int .i64 n11] h18 Q) (unitAt P f_a7 13 [6, 10, 19, 20, 21, 25,
 26, 27] [.pointer (some ⟨m1, 0, none⟩), .string s16, .slice p2 m3 m4, .int .i64 n5, .int .i64 n6, .slice p7 m8 m9, .int
 .i64 n10, .int .i64 n11] h Q)) (EvQ P f_dg [.pointer (some ⟨m1, 0, none⟩), .int .u8 10] h fun v21 h22 => vIfc v21 (unitAt P f_a7 6 [6,
 19, 20, 21] [.pointer (some ⟨m1, 0, none⟩), .slice p2 m3 m4, .int .i64 n5, .int .i64 (IntKind.wrap .i64 (n6 + 1))] h22 Q) fun m23
 v24 => unitAt P f_a7 6 [6, 19, 20, 21] [.pointer (some ⟨m1, 0, none⟩), .slice p2 m3 m4, .int .i64 n5, .int .i64 (IntKind.wrap .i64
 (n6 + 1))] h22 Q)) : unitAt P f_a7 9 [6, 19, 20, 21, 25, 26, 27] [.pointer (some ⟨m1, 0, none⟩), .slice p2 m3 m4, .int .i64 n5, .int .i64
 n6, .slice p7 m8 m9, .int .i64 n10, .int .i64 n11] h Q := uo [(6,[6,19,20,21]),(9,[6,19,20,21,25,26,27]),(13,[6,10,19,20,21,25,26,27])] H (by kernel_rfl)
theorem r_a8 {m1 : Nat} {s2 : ByteArray} {p3 : Option Addr} {m4 m5 : Nat} {n6 n7 : Int} {p8 : Option Addr} {m9 m10 : Nat} {n11 n12 : Int} (H : EvQ P f_c3 [.string s2] h fun v13 h14 => vStr v13 fun s15 => EvQ P f_dh [.pointer (some ⟨m1, 0, none⟩), .string s15] h14 fun
 v16 h17 => vTup v16 fun l18 => lC l18 fun v19 l20 => vInt .i64 v19 fun n21 => lC l20 fun v22 l23 => vIfc v22 (lN l23 (unitAt P f_a7 9 [6, 19, 20, 21, 25, 26, 27]
 [.pointer (some ⟨m1, 0, none⟩), .slice p3 m4 m5, .int .i64 n6, .int .i64 n7, .slice p8 m9 m10, .int .i64 n11, .int
 .i64 (IntKind.wrap .i64 (n12 + 1))] h17 Q)) fun m24 v25 => lN l23 (unitAt P f_a7 9 [6, 19, 20, 21, 25, 26, 27] [.pointer (some ⟨m1, 0, none⟩),
 .slice p3 m4 m5, .int .i64 n6, .int .i64 n7, .slice p8 m9 m10, .int .i64 n11, .int .i64 (IntKind.wrap .i64 (n12 +
 1))] h17 Q)) : unitAt P f_a7 13 [6, 10, 19, 20, 21, 25, 26, 27] [.pointer (some ⟨m1, 0, none⟩), .string s2, .slice p3 m4 m5, .int .i64 n6,
 .int .i64 n7, .slice p8 m9 m10, .int .i64 n11, .int .i64 n12] h Q := uo [(6,[6,19,20,21]),(9,[6,19,20,21,25,26,27]),(13,[6,10,19,20,21,25,26,27])] H (by kernel_rfl)
theorem r_db {p1 : Option Addr} {n2 : Int} (H : EvQ P f_di [.pointer p1] h fun v3 h4 => bC (decide (n2 < 0)) False (unitAt P f_db 3 [0, 1]
 [.pointer p1, .int .i64 n2] h4 Q)) : EvQ P f_db [.pointer p1, .int .i64 n2] h Q := fo [(3,[0,1])] H (by kernel_rfl)
theorem r_dc {p1 : Option Addr} {n2 : Int} (H : aP p1 fun m3 m4 => oB (AW.rd h m3 (m4 + 1)) fun v5 => vSl v5 fun p6 m7 m8 => oB (capB P h
 (Array.mk [ty_sl_uint8]) [.slice p6 m7 m8]) fun v9 => vInt .i64 v9 fun n10 => aP p1 fun m11 m12 => oB (AW.rd h m11 (m12 + 1)) fun v13 => vSl v13 fun p14 m15 m16 => bC
 (decide (IntKind.wrap .i64 (n10 - (↑m15 : Int)) < n2)) (EvQ P f_dj [.pointer p1, .int .i64 n2] h fun v17 h18 => Q (.tuple (Array.mk [])) h18) (Q
 (.tuple (Array.mk [])) h)) : unitAt P f_db 3 [0, 1] [.pointer p1, .int .i64 n2] h Q := uo [(3,[0,1])] H (by kernel_rfl)
theorem r_f6 {s1 s2 : ByteArray} (H : EvQ P f_ft [.string s1, .string s2] h fun v3 h4 => vBool v3 fun b5 => Q
 (.bool b5) h4) : EvQ P f_f6 [.string s1, .string s2] h Q := fo [] H (by kernel_rfl)
theorem r_dd {p1 : Option Addr} (H : aP p1 fun m2 m3 => oB (AW.rd h m2 (m3 + 1)) fun v4 => vSl v4 fun p5 m6 m7 => Q (.int .i64 (↑m6
 : Int)) h) : EvQ P f_dd [.pointer p1] h Q := fo [] H (by kernel_rfl)
end Go.Proofs.YtamoepfiodgbbaaGreatDoor.E
end

section
/- Rules of walks, printed by a program of ours: group E6. -/
namespace Go.Proofs.YtamoepfiodgbbaaGreatDoor.E
open Go.Abs
set_option maxRecDepth 100000
variable {h : AW} {Q : Value → AW → Prop}
theorem r_bx {s1 : ByteArray} (H : bC (decide ((↑(ByteArray.size s1) : Int) > 32768)) (oB (AW.wr (AW.addVar (AW.addVar h [.slice none 0 0])
 [.int .i64 0, .int .i64 0]) (AW.next h) 0 (.slice none 0 0)) fun h2 => oB (AW.wrL h2 (AW.next (AW.addVar h [.slice none 0 0])) 0 [.int
 .i64 3, .int .i64 32768]) fun h3 => oB (AW.rd h3 (AW.next h) 0) fun v4 => vSl v4 fun p5 m6 m7 => oB (AW.rd h3 (AW.next (AW.addVar h [.slice none 0 0])) 0)
 fun v8 => vInt .i64 v8 fun n9 => oB (AW.rd h3 (AW.next (AW.addVar h [.slice none 0 0])) 1) fun v10 => vInt .i64 v10 fun n11 => Q (.tuple (Array.mk
 [.slice p5 m6 m7, .agg (Array.mk [.int .i64 n9, .int .i64 n11])])) h3) (EvQ P f_d0 [.pointer (some (Addr.mk (AW.next (AW.addVar (AW.addVar
 h [.slice none 0 0]) [.int .i64 0, .int .i64 0])) 0 none))] (AW.addVar (AW.addVar (AW.addVar h [.slice none 0 0]) [.int .i64 0,
 .int .i64 0]) [.string s1, .int .i64 0, .int .i64 1, .int .i64 0]) fun v12 h13 => vSl v12 fun p14 m15 m16 => oB (AW.wr h13
 (AW.next h) 0 (.slice p14 m15 m16)) fun h17 => oB (AW.wrL h17 (AW.next (AW.addVar h [.slice none 0 0])) 0 [.int .i64 0, .int .i64 0]) fun h18 =>
 oB (AW.rd h18 (AW.next h) 0) fun v19 => vSl v19 fun p20 m21 m22 => oB (AW.rd h18 (AW.next (AW.addVar h [.slice none 0 0])) 0) fun v23 => vInt .i64 v23 fun n24 => oB
 (AW.rd h18 (AW.next (AW.addVar h [.slice none 0 0])) 1) fun v25 => vInt .i64 v25 fun n26 => Q (.tuple (Array.mk [.slice p20 m21 m22, .agg (Array.mk
 [.int .i64 n24, .int .i64 n26])])) h18)) : EvQ P f_bx [.string s1] h Q := fo [] H (by kernel_rfl)
theorem r_dh {p1 : Option Addr} {s2 : ByteArray} (H : EvQ P f_di [.pointer p1] h fun v3 h4 => aP p1 fun m5 m6 => oB (AW.rd h4 m5 (m6 + 1))
 fun v7 => vSl v7 fun p8 m9 m10 => oP (appendB P h4 (Array.mk [ty_sl_uint8, ty_string]) [.slice p8 m9 m10, .string s2]) fun v11 h12 => vSl v11 fun p13 m14 m15 => aP p1 fun m16 m17
 => oB (AW.wr h12 m16 (m17 + 1) (.slice p13 m14 m15)) fun h18 => Q (.tuple (Array.mk [.int .i64 (↑(ByteArray.size s2) : Int), .nilIface])) h18) : EvQ P
 f_dh [.pointer p1, .string s2] h Q := fo [] H (by kernel_rfl)
theorem r_fk {s1 s2 : ByteArray} (H : EvQ P f_fm [.string s1, .string s2, .int .i64 (↑(ByteArray.size s2) :
 Int), .int .i64 (Int.negSucc 0)] h fun v3 h4 => vSl v3 fun p5 m6 m7 => Q (.slice p5 m6 m7) h4) : EvQ P f_fk [.string s1, .string s2] h Q := fo [] H (by kernel_rfl)
theorem r_e1 {p1 : Option Addr} {m2 m3 : Nat} (H : EvQ P f_e8 [.slice p1 m2 m3, .func (Fn.func f_e2) (Array.mk []) (Array.mk
 [])] h fun v4 h5 => vInt .i64 v4 fun n6 => Q (.int .i64 (if Int.negSucc 0 > n6 then Int.negSucc 0 else n6)) h5) : EvQ P f_e1 [.slice p1 m2 m3] h Q := fo [] H (by kernel_rfl)
theorem r_a1 {p1 : Option Addr} {m2 m3 : Nat} (H : EvQ P f_a2 [.slice p1 m2 m3] h fun v4 h5 => vBool v4 fun b6 => bC (!b6) (Q
 (.tuple (Array.mk [.slice none 0 0, .int .i64 2])) h5) (EvQ P f_af [.slice p1 m2 m3] h5 fun v7 h8 => vSl v7 fun p9 m10 m11 => Q (.tuple (Array.mk
 [.slice p9 m10 m11, .int .i64 0])) h8)) : EvQ P f_a1 [.slice p1 m2 m3] h Q := fo [] H (by kernel_rfl)
theorem r_f9 {s1 : ByteArray} {n2 : Int} (H : EvQ P f_fw [.string s1, .int .u8 n2] h fun v3 h4 => vInt .i64 v3 fun n5
 => Q (.int .i64 n5) h4) : EvQ P f_f9 [.string s1, .int .u8 n2] h Q := fo [] H (by kernel_rfl)
end Go.Proofs.YtamoepfiodgbbaaGreatDoor.E
end

section
/- Rules of walks, printed by a program of ours: group E7. -/
namespace Go.Proofs.YtamoepfiodgbbaaGreatDoor.E
open Go.Abs
set_option maxRecDepth 100000
variable {h : AW} {Q : Value → AW → Prop}
set_option maxHeartbeats 4000000
theorem r_cb {p1 : Option Addr} (H : bC (Option.isNone p1) (Q (.slice none 0 0) h) (aP p1 fun m2 m3 => oB (AW.rd h m2 (m3 + 3)) fun v4 =>
 vSl v4 fun p5 m6 m7 => EvQ P f_e6 [.slice p5 m6 m7] h fun v8 h9 => vSl v8 fun p10 m11 m12 => Q (.slice p10 m11 m12) h9)) : EvQ P f_cb [.pointer p1] h Q := fo [] H (by kernel_rfl)
theorem r_df {p1 : Option Addr} (H : aP p1 fun m2 m3 => oB (AW.rd h m2 (m3 + 1)) fun v4 => vSl v4 fun p5 m6 m7 => oB (sdataB [.slice p5 m6
 m7]) fun v8 => vPtr v8 fun p9 => aP p1 fun m10 m11 => oB (AW.rd h m10 (m11 + 1)) fun v12 => vSl v12 fun p13 m14 m15 => oP (ustrB P h (Array.mk [ty_p_uint8, ty_int]) [.pointer p9,
 .int .i64 (↑m14 : Int)]) fun v16 h17 => vStr v16 fun s18 => Q (.string s18) h17) : EvQ P f_df [.pointer p1] h Q := fo [] H (by kernel_rfl)
theorem r_ak {p1 : Option Addr} {m2 m3 : Nat} {n4 : Int} (H : unitAt P f_ak 2 [1, 7, 8, 9] [.int .i64 n4, .slice p1 m2
 m3, .int .i64 (↑m2 : Int), .int .i64 0] h Q) : EvQ P f_ak [.slice p1 m2 m3, .int .i64 n4] h Q := fo [(2,[1,7,8,9])] H (by kernel_rfl)
theorem r_al {n1 : Int} {p2 : Option Addr} {m3 m4 : Nat} {n5 n6 : Int} (H : bC (decide (n6 < n5)) (aP p2 fun m7 m8 => oB
 (natIdx n6 m3) fun m9 => oB (AW.rd h m7 (m8 + m9 * 4)) fun v10 => vInt .i64 v10 fun n11 => oB (AW.rd h m7 (m8 + m9 * 4 + 1)) fun v12 => vSl v12 fun p13 m14 m15 => oB
 (AW.rd h m7 (m8 + m9 * 4 + 1 + 1)) fun v16 => vInt .i64 v16 fun n17 => oB (AW.rd h m7 (m8 + m9 * 4 + 1 + 1 + 1)) fun v18 => vSl v18 fun p19 m20 m21 => oB (AW.wrL
 (AW.addVar h [.int .i64 0, .slice none 0 0, .int .i64 0, .slice none 0 0]) (AW.next h) 0 [.int .i64 n11, .slice p13 m14 m15,
 .int .i64 n17, .slice p19 m20 m21]) fun h22 => oB (AW.rd h22 (AW.next h) 0) fun v23 => vInt .i64 v23 fun n24 => bC (decide (n24 < 1)) (Q (.bool
 false) h22) (oB (AW.rd h22 (AW.next h) 0) fun v25 => vInt .i64 v25 fun n26 => bC (decide (n26 > 12)) (Q (.bool false) h22) (oB (AW.rd h22 (AW.next h) 0) fun v27 =>
 vInt .i64 v27 fun n28 => oB (AW.rd h22 (AW.next h) 1) fun v29 => vSl v29 fun p30 m31 m32 => EvQ P f_ad [.int .i64 n28, .int .i64 (↑m31 : Int)] h22
 fun v33 h34 => vBool v33 fun b35 => bC (!b35) (Q (.bool false) h34) (oB (AW.rd h34 (AW.next h) 2) fun v36 => vInt .i64 v36 fun n37 => bC (decide (n37 < 0)) (Q
 (.bool false) h34) (oB (AW.rd h34 (AW.next h) 2) fun v38 => vInt .i64 v38 fun n39 => bC (decide (n39 > 1000)) (Q (.bool false) h34) (oB (AW.rd h34 (AW.next h) 2)
 fun v40 => vInt .i64 v40 fun n41 => bC (decide (n41 > 0)) (oB (AW.rd h34 (AW.next h) 0) fun v42 => vInt .i64 v42 fun n43 => bC (n43 != 10) (Q (.bool false)
 h34) (oB (AW.rd h34 (AW.next h) 0) fun v44 => vInt .i64 v44 fun n45 => EvQ P f_aj [.int .i64 n45] h34 fun v46 h47 => vBool v46 fun b48 => bC b48 (bC (n1 == 8)
 (Q (.bool false) h47) (oB (AW.rd h47 (AW.next h) 0) fun v49 => vInt .i64 v49 fun n50 => EvQ P f_aj [.int .i64 n50] h47 fun v51 h52 => vBool v51 fun b53 =>
 bC (!b53) (oB (AW.rd h52 (AW.next h) 3) fun v54 => vSl v54 fun p55 m56 m57 => bC (decide ((↑m56 : Int) > 0)) (Q (.bool false) h52) (oB (AW.rd h52 (AW.next h) 3) fun v58 =>
 vSl v58 fun p59 m60 m61 => EvQ P f_ak [.slice p59 m60 m61, .int .i64 (IntKind.wrap .i64 (n1 + 1))] h52 fun v62 h63 => vBool v62 fun b64 => bC (!b64) (Q
 (.bool false) h63) (unitAt P f_ak 2 [1, 7, 8, 9] [.int .i64 n1, .slice p2 m3 m4, .int .i64 n5, .int .i64 (IntKind.wrap .i64
 (n6 + 1))] h63 Q))) (oB (AW.rd h52 (AW.next h) 3) fun v65 => vSl v65 fun p66 m67 m68 => EvQ P f_ak [.slice p66 m67 m68, .int .i64 (IntKind.wrap .i64 (n1 +
 1))] h52 fun v69 h70 => vBool v69 fun b71 => bC (!b71) (Q (.bool false) h70) (unitAt P f_ak 2 [1, 7, 8, 9] [.int .i64 n1, .slice p2 m3 m4, .int
 .i64 n5, .int .i64 (IntKind.wrap .i64 (n6 + 1))] h70 Q)))) (oB (AW.rd h47 (AW.next h) 0) fun v72 => vInt .i64 v72 fun n73 => EvQ P f_aj
 [.int .i64 n73] h47 fun v74 h75 => vBool v74 fun b76 => bC (!b76) (oB (AW.rd h75 (AW.next h) 3) fun v77 => vSl v77 fun p78 m79 m80 => bC (decide ((↑m79 : Int) > 0))
 (Q (.bool false) h75) (oB (AW.rd h75 (AW.next h) 3) fun v81 => vSl v81 fun p82 m83 m84 => EvQ P f_ak [.slice p82 m83 m84, .int .i64 (IntKind.wrap
 .i64 (n1 + 1))] h75 fun v85 h86 => vBool v85 fun b87 => bC (!b87) (Q (.bool false) h86) (unitAt P f_ak 2 [1, 7, 8, 9] [.int .i64 n1, .slice p2 m3 m4,
 .int .i64 n5, .int .i64 (IntKind.wrap .i64 (n6 + 1))] h86 Q))) (oB (AW.rd h75 (AW.next h) 3) fun v88 => vSl v88 fun p89 m90 m91 => EvQ P f_ak
 [.slice p89 m90 m91, .int .i64 (IntKind.wrap .i64 (n1 + 1))] h75 fun v92 h93 => vBool v92 fun b94 => bC (!b94) (Q (.bool false) h93) (unitAt P f_ak 2
 [1, 7, 8, 9] [.int .i64 n1, .slice p2 m3 m4, .int .i64 n5, .int .i64 (IntKind.wrap .i64 (n6 + 1))] h93 Q))))) (oB (AW.rd h34
 (AW.next h) 0) fun v95 => vInt .i64 v95 fun n96 => EvQ P f_aj [.int .i64 n96] h34 fun v97 h98 => vBool v97 fun b99 => bC b99 (bC (n1 == 8) (Q (.bool
 false) h98) (oB (AW.rd h98 (AW.next h) 0) fun v100 => vInt .i64 v100 fun n101 => EvQ P f_aj [.int .i64 n101] h98 fun v102 h103 => vBool v102 fun b104 => bC
 (!b104) (oB (AW.rd h103 (AW.next h) 3) fun v105 => vSl v105 fun p106 m107 m108 => bC (decide ((↑m107 : Int) > 0)) (Q (.bool false) h103) (oB (AW.rd h103 (AW.next h) 3) fun
 v109 => vSl v109 fun p110 m111 m112 => EvQ P f_ak [.slice p110 m111 m112, .int .i64 (IntKind.wrap .i64 (n1 + 1))] h103 fun v113 h114 => vBool v113 fun
 b115 => bC (!b115) (Q (.bool false) h114) (unitAt P f_ak 2 [1, 7, 8, 9] [.int .i64 n1, .slice p2 m3 m4, .int .i64 n5, .int .i64
 (IntKind.wrap .i64 (n6 + 1))] h114 Q))) (oB (AW.rd h103 (AW.next h) 3) fun v116 => vSl v116 fun p117 m118 m119 => EvQ P f_ak [.slice p117 m118 m119, .int
 .i64 (IntKind.wrap .i64 (n1 + 1))] h103 fun v120 h121 => vBool v120 fun b122 => bC (!b122) (Q (.bool false) h121) (unitAt P f_ak 2 [1, 7, 8, 9] [.int
 .i64 n1, .slice p2 m3 m4, .int .i64 n5, .int .i64 (IntKind.wrap .i64 (n6 + 1))] h121 Q)))) (oB (AW.rd h98 (AW.next h) 0) fun v123 =>
 vInt .i64 v123 fun n124 => EvQ P f_aj [.int .i64 n124] h98 fun v125 h126 => vBool v125 fun b127 => bC (!b127) (oB (AW.rd h126 (AW.next h) 3) fun v128 => vSl
 v128 fun p129 m130 m131 => bC (decide ((↑m130 : Int) > 0)) (Q (.bool false) h126) (oB (AW.rd h126 (AW.next h) 3) fun v132 => vSl v132 fun p133 m134 m135 => EvQ P f_ak
 [.slice p133 m134 m135, .int .i64 (IntKind.wrap .i64 (n1 + 1))] h126 fun v136 h137 => vBool v136 fun b138 => bC (!b138) (Q (.bool false) h137)
 (unitAt P f_ak 2 [1, 7, 8, 9] [.int .i64 n1, .slice p2 m3 m4, .int .i64 n5, .int .i64 (IntKind.wrap .i64 (n6 + 1))] h137 Q))) (oB
 (AW.rd h126 (AW.next h) 3) fun v139 => vSl v139 fun p140 m141 m142 => EvQ P f_ak [.slice p140 m141 m142, .int .i64 (IntKind.wrap .i64 (n1 + 1))] h126 fun
 v143 h144 => vBool v143 fun b145 => bC (!b145) (Q (.bool false) h144) (unitAt P f_ak 2 [1, 7, 8, 9] [.int .i64 n1, .slice p2 m3 m4, .int .i64
 n5, .int .i64 (IntKind.wrap .i64 (n6 + 1))] h144 Q)))))))))) (Q (.bool true) h)) : unitAt P f_ak 2 [1, 7, 8, 9] [.int .i64 n1, .slice p2
 m3 m4, .int .i64 n5, .int .i64 n6] h Q := uo [(2,[1,7,8,9])] H (by kernel_rfl)
theorem r_e5 {p1 : Option Addr} {m2 m3 : Nat} (H : bC (Option.isNone p1) (Q (.slice none 0 0) h) (oP (appendB P (AW.addVar h [])
 (Array.mk [ty_sl_api_Word, ty_sl_api_Word]) [.slice (some ⟨(AW.next h), 0, none⟩) 0 0, .slice p1 m2 m3]) fun v4 h5 => vSl v4 fun p6 m7 m8 => Q (.slice p6 m7 m8) h5)) : EvQ P
 f_e5 [.slice p1 m2 m3] h Q := fo [] H (by kernel_rfl)
theorem r_fm {s1 s2 : ByteArray} {n3 n4 : Int} (H : bC (n4 == 0) (Q (.slice none 0 0) h) (bC (bEq s2 (ByteArray.mk
 #[])) (EvQ P f_fl [.string s1, .int .i64 n4] h fun v5 h6 => vSl v5 fun p7 m8 m9 => Q (.slice p7 m8 m9) h6) (bC (decide (n4 < 0)) (EvQ P f_f3 [.string
 s1, .string s2] h fun v10 h11 => vInt .i64 v10 fun n12 => unitAt P f_fm 7 [0, 1, 2, 3] [.string s1, .string s2, .int .i64 n3, .int
 .i64 (IntKind.wrap .i64 (n12 + 1))] h11 Q) (unitAt P f_fm 7 [0, 1, 2, 3] [.string s1, .string s2, .int .i64 n3, .int .i64 n4] h
 Q)))) : EvQ P f_fm [.string s1, .string s2, .int .i64 n3, .int .i64 n4] h Q := fo [(7,[0,1,2,3]),(11,[0,1,2,3,9,10]),(17,[0,9,10])] H (by kernel_rfl)
theorem r_fp {s1 s2 : ByteArray} {n3 n4 : Int} (H : oP (makeSliceV P h ty_sl_string (.int .i64 (if IntKind.wrap
 .i64 ((↑(ByteArray.size s1) : Int) + 1) < n4 then IntKind.wrap .i64 ((↑(ByteArray.size s1) : Int) + 1) else n4)) (.int .i64 (if IntKind.wrap .i64
 ((↑(ByteArray.size s1) : Int) + 1) < n4 then IntKind.wrap .i64 ((↑(ByteArray.size s1) : Int) + 1) else n4))) fun v5 h6 => vSl v5 fun p7 m8 m9 => unitAt P f_fm 11 [0, 1, 2,
 3, 9, 10] [.string s1, .string s2, .int .i64 n3, .int .i64 (IntKind.wrap .i64 ((if IntKind.wrap .i64 ((↑(ByteArray.size s1) : Int)
 + 1) < n4 then IntKind.wrap .i64 ((↑(ByteArray.size s1) : Int) + 1) else n4) - 1)), .slice p7 m8 m9, .int .i64 0] h6 Q) : unitAt P f_fm 7 [0, 1, 2, 3]
 [.string s1, .string s2, .int .i64 n3, .int .i64 n4] h Q := uo [(7,[0,1,2,3]),(11,[0,1,2,3,9,10]),(17,[0,9,10])] H (by kernel_rfl)
theorem r_fn {s1 s2 : ByteArray} {n3 n4 : Int} {p5 : Option Addr} {m6 m7 : Nat} {n8 : Int} (H : bC (decide (n8 <
 n4)) (EvQ P f_f8 [.string s1, .string s2] h fun v9 h10 => vInt .i64 v9 fun n11 => bC (decide (n11 < 0)) (unitAt P f_fm 17 [0, 9, 10] [.string s1,
 .slice p5 m6 m7, .int .i64 n8] h10 Q) (oB (natBnd (IntKind.wrap .i64 (n11 + n3)) (ByteArray.size s1)) fun m12 => aP p5 fun m13 m14 => oB (natIdx n8 m6)
 fun m15 => oB (AW.wr h10 m13 (m14 + m15 * 1) (.string (bSub s1 0 m12))) fun h16 => oB (natBnd (IntKind.wrap .i64 (n11 + (↑(ByteArray.size s2) : Int))) (ByteArray.size
 s1)) fun m17 => unitAt P f_fm 11 [0, 1, 2, 3, 9, 10] [.string (bSub s1 m17 (ByteArray.size s1)), .string s2, .int .i64 n3, .int .i64 n4,
 .slice p5 m6 m7, .int .i64 (IntKind.wrap .i64 (n8 + 1))] h16 Q)) (unitAt P f_fm 17 [0, 9, 10] [.string s1, .slice p5 m6 m7, .int
 .i64 n8] h Q)) : unitAt P f_fm 11 [0, 1, 2, 3, 9, 10] [.string s1, .string s2, .int .i64 n3, .int .i64 n4, .slice p5 m6 m7,
 .int .i64 n8] h Q := uo [(7,[0,1,2,3]),(11,[0,1,2,3,9,10]),(17,[0,9,10])] H (by kernel_rfl)
theorem r_fo {s1 : ByteArray} {p2 : Option Addr} {m3 m4 : Nat} {n5 : Int} (H : aP p2 fun m6 m7 => oB (natIdx n5 m3) fun m8 => oB
 (AW.wr h m6 (m7 + m8 * 1) (.string s1)) fun h9 => oB (natBnd (IntKind.wrap .i64 (n5 + 1)) m4) fun m10 => bC (Nat.ble m10 m4) (oB (shO p2 0) fun p11 => Q (.slice
 p11 (m10 - 0) (m4 - 0)) h9) False) : unitAt P f_fm 17 [0, 9, 10] [.string s1, .slice p2 m3 m4, .int .i64 n5] h Q := uo [(7,[0,1,2,3]),(11,[0,1,2,3,9,10]),(17,[0,9,10])] H (by kernel_rfl)
theorem r_e4 {p1 : Option Addr} {m2 m3 : Nat} (H : bC (Option.isNone p1) (Q (.slice none 0 0) h) (oP (appendB P (AW.addVar h [])
 (Array.mk [ty_sl_api_Stmt, ty_sl_api_Stmt]) [.slice (some ⟨(AW.next h), 0, none⟩) 0 0, .slice p1 m2 m3]) fun v4 h5 => vSl v4 fun p6 m7 m8 => Q (.slice p6 m7 m8) h5)) : EvQ P
 f_e4 [.slice p1 m2 m3] h Q := fo [] H (by kernel_rfl)
theorem r_ft {s1 s2 : ByteArray} (H : bC (decide ((↑(ByteArray.size s1) : Int) ≥ (↑(ByteArray.size s2) : Int))) (oB (natBnd
 (↑(ByteArray.size s2) : Int) (ByteArray.size s1)) fun m3 => Q (.bool (bEq (bSub s1 0 m3) s2)) h) (Q (.bool false) h)) : EvQ P f_ft [.string s1, .string s2] h
 Q := fo [] H (by kernel_rfl)
end Go.Proofs.YtamoepfiodgbbaaGreatDoor.E
end

section
/- Rules of walks, printed by a program of ours: group E8. -/
namespace Go.Proofs.YtamoepfiodgbbaaGreatDoor.E
open Go.Abs
set_option maxRecDepth 100000
variable {h : AW} {Q : Value → AW → Prop}
set_option maxHeartbeats 400000
attribute [local irreducible] kFn kUnit EvQ unitAt kOwn RunOwn
theorem r_b0 {s1 : ByteArray} (H : EvQ P f_b4 [.slice (some (Addr.mk (AW.next (AW.addVar h [.int .i64 0, .string
 (ByteArray.mk #[]), .int .i64 0, .int .i64 0])) 0 none)) 2 2] (AW.addVar (AW.addVar h [.int .i64 0, .string (ByteArray.mk #[]), .int
 .i64 0, .int .i64 0]) [.string (ByteArray.mk #[114]), .string s1, .string (ByteArray.mk #[120]), .string (ByteArray.mk #[])]) fun v2 h3 =>
 EvQ P f_bn [v2, .string (ByteArray.mk #[114])] h3 fun v4 h5 => vTup v4 fun l6 => lC l6 fun v7 l8 => vPtr v7 fun p9 => lC l8 fun v10 l11 => vAgg v10 fun l12 => lC l12 fun v13
 l14 => vInt .i64 v13 fun n15 => lC l14 fun v16 l17 => vStr v16 fun s18 => lC l17 fun v19 l20 => vInt .i64 v19 fun n21 => lC l20 fun v22 l23 => vInt .i64 v22
 fun n24 => lN l23 (lN l11 (oB (AW.wrL (AW.addVar h5 [.int .i64 0, .string (ByteArray.mk #[]), .int .i64 0, .int .i64 0]) (AW.next h5) 0
 [.int .i64 n15, .string s18, .int .i64 n21, .int .i64 n24]) fun h25 => oB (AW.rd h25 (AW.next h5) 0) fun v26 => vInt .i64 v26 fun
 n27 => oB (AW.rd h25 (AW.next h5) 1) fun v28 => vStr v28 fun s29 => oB (AW.rd h25 (AW.next h5) 2) fun v30 => vInt .i64 v30 fun n31 => oB (AW.rd h25 (AW.next h5) 3) fun v32
 => vInt .i64 v32 fun n33 => oB (AW.wrL h25 (AW.next h) 0 [.int .i64 n27, .string s29, .int .i64 n31, .int .i64 n33]) fun h34 => oB
 (AW.rd h34 (AW.next h) 0) fun v35 => vInt .i64 v35 fun n36 => oB (AW.rd h34 (AW.next h) 1) fun v37 => vStr v37 fun s38 => oB (AW.rd h34 (AW.next h) 2) fun v39 => vInt
 .i64 v39 fun n40 => oB (AW.rd h34 (AW.next h) 3) fun v41 => vInt .i64 v41 fun n42 => Q (.agg (Array.mk [.int .i64 n36, .string s38, .int
 .i64 n40, .int .i64 n42])) h34))) : RunOwn P f_b0 [.string s1] h Q := oo [] H (by kernel_rfl)
theorem r_ab {p1 : Option Addr} {m2 m3 : Nat} (H : unitAt P f_ab 3 [3, 8, 9, 10] [.int .i64 (↑m2 : Int), .slice p1 m2
 m3, .int .i64 (↑m2 : Int), .int .i64 0] h Q) : EvQ P f_ab [.slice p1 m2 m3] h Q := fo [(3,[3,8,9,10])] H (by kernel_rfl)
theorem r_ac {n1 : Int} {p2 : Option Addr} {m3 m4 : Nat} {n5 n6 : Int} (H : bC (decide (n6 < n5)) (aP p2 fun m7 m8 => oB
 (natIdx n6 m3) fun m9 => oB (AW.rd h m7 (m8 + m9 * 4)) fun v10 => vInt .i64 v10 fun n11 => oB (AW.rd h m7 (m8 + m9 * 4 + 1)) fun v12 => vSl v12 fun p13 m14 m15 => oB
 (AW.rd h m7 (m8 + m9 * 4 + 1 + 1)) fun v16 => vInt .i64 v16 fun n17 => oB (AW.rd h m7 (m8 + m9 * 4 + 1 + 1 + 1)) fun v18 => vSl v18 fun p19 m20 m21 => oB (AW.wrL
 (AW.addVar h [.int .i64 0, .slice none 0 0, .int .i64 0, .slice none 0 0]) (AW.next h) 0 [.int .i64 n11, .slice p13 m14 m15,
 .int .i64 n17, .slice p19 m20 m21]) fun h22 => oB (AW.rd h22 (AW.next h) 3) fun v23 => vSl v23 fun p24 m25 m26 => EvQ P f_ab [.slice p24 m25 m26] h22 fun
 v27 h28 => vInt .i64 v27 fun n29 => unitAt P f_ab 3 [3, 8, 9, 10] [.int .i64 (IntKind.wrap .i64 (n1 + n29)), .slice p2 m3 m4, .int .i64
 n5, .int .i64 (IntKind.wrap .i64 (n6 + 1))] h28 Q) (Q (.int .i64 n1) h)) : unitAt P f_ab 3 [3, 8, 9, 10] [.int .i64 n1, .slice p2
 m3 m4, .int .i64 n5, .int .i64 n6] h Q := uo [(3,[3,8,9,10])] H (by kernel_rfl)
theorem r_d5 {m1 m2 : Nat} {m3 m4 : Nat} (H : oB (AW.rd h m1 (m2 + 2)) fun v5 => vSl v5 fun p6 m7 m8 => bC (decide ((↑m7 : Int) >
 0)) (oB (AW.rd h m3 m4) fun v9 => vSl v9 fun p10 m11 m12 => oB (AW.rd h m1 m2) fun v13 => vInt .i64 v13 fun n14 => oB (AW.rd h m1 (m2 + 1)) fun v15 => vBool v15 fun b16 =>
 oB (AW.rd h m1 (m2 + 1 + 1)) fun v17 => vSl v17 fun p18 m19 m20 => oP (appendB P (AW.addVar h [.int .i64 n14, .bool b16, .slice p18 m19 m20]) (Array.mk
 [ty_sl_api_Line, ty_sl_api_Line]) [.slice p10 m11 m12, .slice (some ⟨(AW.next h), 0, none⟩) 1 1]) fun v21 h22 => vSl v21 fun p23 m24 m25 => oB (AW.wr h22 m3 m4 (.slice p23 m24
 m25)) fun h26 => Q (.tuple (Array.mk [])) h26) (Q (.tuple (Array.mk [])) h)) : EvQ P f_d5 [.pointer (some ⟨m1, m2, none⟩), .pointer (some (Addr.mk m3 m4
 none))] h Q := fo [] H (by kernel_rfl)
theorem r_ad {n1 n2 : Int} (H : bC (n1 == 1) (Q (.bool (n2 == 1)) h) (bC (n1 == 2) (Q (.bool (n2 == 1)) h) (bC (n1 == 8) (Q
 (.bool (n2 == 1)) h) (bC (n1 == 11) (Q (.bool (n2 == 1)) h) (unitAt P f_ad 7 [1, 5] [.int .i64 n2, .int .i64 n1] h Q))))) : EvQ P f_ad
 [.int .i64 n1, .int .i64 n2] h Q := fo [(7,[1,5]),(10,[1,5])] H (by kernel_rfl)
theorem r_ae {n1 n2 : Int} (H : bC (n2 == 3) (Q (.bool true) h) (bC (n2 == 9) (Q (.bool true) h) (unitAt P f_ad 10 [1, 5]
 [.int .i64 n1, .int .i64 n2] h Q))) : unitAt P f_ad 7 [1, 5] [.int .i64 n1, .int .i64 n2] h Q := uo [(7,[1,5]),(10,[1,5])] H (by kernel_rfl)
theorem r_f7 {s1 s2 : ByteArray} (H : EvQ P f_fu [.string s1, .string s2] h fun v3 h4 => vBool v3 fun b5 => Q
 (.bool b5) h4) : EvQ P f_f7 [.string s1, .string s2] h Q := fo [] H (by kernel_rfl)
theorem r_fw {s1 : ByteArray} {n2 : Int} (H : EvQ P f_bb [.string s1, .int .u8 n2] h fun v3 h4 => vInt .i64 v3 fun n5
 => Q (.int .i64 n5) h4) : EvQ P f_fw [.string s1, .int .u8 n2] h Q := fo [] H (by kernel_rfl)
end Go.Proofs.YtamoepfiodgbbaaGreatDoor.E
end

section
/- Rules of walks, printed by a program of ours: group E9. -/
namespace Go.Proofs.YtamoepfiodgbbaaGreatDoor.E
open Go.Abs
set_option maxRecDepth 100000
variable {h : AW} {Q : Value → AW → Prop}
attribute [local irreducible] kFn kUnit EvQ unitAt kOwn RunOwn
theorem r_b1 {n1 : Int} (H : unitAt P f_b1 3 [0, 2, 3, 4] [.int .i64 n1, .pointer (some ⟨(AW.next h), 0, none⟩),
 .slice none 0 0, .int .i64 0] (AW.addVar h [.int .i64 0, .string (ByteArray.mk #[]), .int .i64 0, .int .i64 0]) Q) : RunOwn
 P f_b1 [.int .i64 n1] h Q := oo [(3,[0,2,3,4]),(8,[0,2,3,4,5])] H (by kernel_rfl)
theorem r_b2 {n1 : Int} {m2 : Nat} {p3 : Option Addr} {m4 m5 : Nat} {n6 : Int} (H : bC (decide (n6 ≤ n1)) (bC (decide (n6 < n1)) (oB
 (AW.bytes (AW.addVar h [.int .u8 (IntKind.wrap .u8 (IntKind.wrap .i64 (IntKind.wrap .i64 (97 + n6) + 1)))]) (some ⟨(AW.next h), 0, none⟩)
 1) fun s7 => bC (Nat.ble (9 + ByteArray.size s7) 9223372036854775807) (bC (Nat.ble (ByteArray.size (ByteArray.mk #[105, 110, 99, 108, 117, 100, 101, 32, 102] ++ s7) + 1)
 9223372036854775807) (unitAt P f_b1 8 [0, 2, 3, 4, 5] [.int .i64 n1, .pointer (some ⟨m2, 0, none⟩), .slice p3 m4 m5, .int .i64 n6,
 .string (ByteArray.mk #[105, 110, 99, 108, 117, 100, 101, 32, 102] ++ s7 ++ ByteArray.mk #[10])] (AW.addVar h [.int .u8 (IntKind.wrap .u8 (IntKind.wrap
 .i64 (IntKind.wrap .i64 (97 + n6) + 1)))]) Q) False) False) (unitAt P f_b1 8 [0, 2, 3, 4, 5] [.int .i64 n1, .pointer (some ⟨m2, 0, none⟩),
 .slice p3 m4 m5, .int .i64 n6, .string (ByteArray.mk #[])] h Q)) (EvQ P f_b4 [.slice p3 m4 m5] h fun v8 h9 => EvQ P f_bn [v8, .string
 (ByteArray.mk #[102, 97])] h9 fun v10 h11 => vTup v10 fun l12 => lC l12 fun v13 l14 => vPtr v13 fun p15 => lC l14 fun v16 l17 => vAgg v16 fun l18 => lC l18 fun v19 l20 => vInt
 .i64 v19 fun n21 => lC l20 fun v22 l23 => vStr v22 fun s24 => lC l23 fun v25 l26 => vInt .i64 v25 fun n27 => lC l26 fun v28 l29 => vInt .i64 v28 fun n30 =>
 lN l29 (lN l17 (oB (AW.wrL (AW.addVar h11 [.int .i64 0, .string (ByteArray.mk #[]), .int .i64 0, .int .i64 0]) (AW.next h11) 0 [.int
 .i64 n21, .string s24, .int .i64 n27, .int .i64 n30]) fun h31 => oB (AW.rd h31 (AW.next h11) 0) fun v32 => vInt .i64 v32 fun n33 => oB
 (AW.rd h31 (AW.next h11) 1) fun v34 => vStr v34 fun s35 => oB (AW.rd h31 (AW.next h11) 2) fun v36 => vInt .i64 v36 fun n37 => oB (AW.rd h31 (AW.next h11) 3) fun v38 =>
 vInt .i64 v38 fun n39 => oB (AW.wrL h31 m2 0 [.int .i64 n33, .string s35, .int .i64 n37, .int .i64 n39]) fun h40 => oB (AW.rd h40
 m2 0) fun v41 => vInt .i64 v41 fun n42 => oB (AW.rd h40 m2 1) fun v43 => vStr v43 fun s44 => oB (AW.rd h40 m2 2) fun v45 => vInt .i64 v45 fun n46 => oB (AW.rd h40
 m2 3) fun v47 => vInt .i64 v47 fun n48 => Q (.agg (Array.mk [.int .i64 n42, .string s44, .int .i64 n46, .int .i64 n48]))
 h40)))) : unitAt P f_b1 3 [0, 2, 3, 4] [.int .i64 n1, .pointer (some ⟨m2, 0, none⟩), .slice p3 m4 m5, .int .i64 n6] h Q := uo [(3,[0,2,3,4]),(8,[0,2,3,4,5])] H (by kernel_rfl)
theorem r_b3 {n1 : Int} {m2 : Nat} {p3 : Option Addr} {m4 m5 : Nat} {n6 : Int} {s7 : ByteArray} (H : oB (AW.bytes (AW.addVar h
 [.int .u8 (IntKind.wrap .u8 (IntKind.wrap .i64 (97 + n6)))]) (some ⟨(AW.next h), 0, none⟩) 1) fun s8 => bC (Nat.ble (1 + ByteArray.size s8)
 9223372036854775807) (oP (appendB P (AW.addVar (AW.addVar h [.int .u8 (IntKind.wrap .u8 (IntKind.wrap .i64 (97 + n6)))]) [.string (ByteArray.mk
 #[102] ++ s8), .string s7]) (Array.mk [ty_sl_brickyardref15_File, ty_sl_brickyardref15_File]) [.slice p3 m4 m5, .slice (some (Addr.mk (AW.next (AW.addVar h [.int .u8 (IntKind.wrap .u8
 (IntKind.wrap .i64 (97 + n6)))])) 0 none)) 1 1]) fun v9 h10 => vSl v9 fun p11 m12 m13 => unitAt P f_b1 3 [0, 2, 3, 4] [.int .i64 n1, .pointer (some
 ⟨m2, 0, none⟩), .slice p11 m12 m13, .int .i64 (IntKind.wrap .i64 (n6 + 1))] h10 Q) False) : unitAt P f_b1 8 [0, 2, 3, 4, 5] [.int .i64
 n1, .pointer (some ⟨m2, 0, none⟩), .slice p3 m4 m5, .int .i64 n6, .string s7] h Q := uo [(3,[0,2,3,4]),(8,[0,2,3,4,5])] H (by kernel_rfl)
theorem r_e7 {p1 : Option Addr} {m2 m3 : Nat} {s4 : ByteArray} (H : EvQ P f_ea [.slice p1 m2 m3, .string s4] h fun v5 h6 =>
 vInt .i64 v5 fun n7 => Q (.bool (decide (n7 ≥ 0))) h6) : EvQ P f_e7 [.slice p1 m2 m3, .string s4] h Q := fo [] H (by kernel_rfl)
theorem r_d8 {p1 : Option Addr} (H : aP p1 fun m2 m3 => oB (AW.rd h m2 (m3 + 1)) fun v4 => vInt .i64 v4 fun n5 => aP p1 fun m6 m7 => oB
 (AW.rd h m6 m7) fun v8 => vStr v8 fun s9 => bC (n5 == (↑(ByteArray.size s9) : Int)) (Q (.tuple (Array.mk [.int .u8 0, .int .i64 0])) h) (aP p1 fun
 m10 m11 => oB (AW.rd h m10 m11) fun v12 => vStr v12 fun s13 => aP p1 fun m14 m15 => oB (AW.rd h m14 (m15 + 1)) fun v16 => vInt .i64 v16 fun n17 => oB (natBnd n17
 (ByteArray.size s13)) fun m18 => EvQ P f_f6 [.string (bSub s13 m18 (ByteArray.size s13)), .string (ByteArray.mk #[92, 10])] h fun v19 h20 => vBool v19 fun b21 => bC
 b21 (Q (.tuple (Array.mk [.int .u8 32, .int .i64 2])) h20) (aP p1 fun m22 m23 => oB (AW.rd h20 m22 m23) fun v24 => vStr v24 fun s25 => aP p1 fun m26
 m27 => oB (AW.rd h20 m26 (m27 + 1)) fun v28 => vInt .i64 v28 fun n29 => oB (natIdx n29 (ByteArray.size s25)) fun m30 => oB (bAt s25 m30) fun n31 => Q (.tuple
 (Array.mk [.int .u8 n31, .int .i64 1])) h20))) : EvQ P f_d8 [.pointer p1] h Q := fo [] H (by kernel_rfl)
theorem r_aj {n1 : Int} (H : bC (decide (n1 ≥ 10)) (Q (.bool (decide (n1 ≤ 12))) h) (Q (.bool false) h)) : EvQ P f_aj [.int
 .i64 n1] h Q := fo [] H (by kernel_rfl)
theorem r_fh {s1 s2 s3 : ByteArray} (H : EvQ P f_fg [.string s1, .string s2, .string s3, .int
 .i64 (Int.negSucc 0)] h fun v4 h5 => vStr v4 fun s6 => Q (.string s6) h5) : EvQ P f_fh [.string s1, .string s2, .string s3] h Q := fo [] H (by kernel_rfl)
theorem r_fu {s1 s2 : ByteArray} (H : bC (decide ((↑(ByteArray.size s1) : Int) ≥ (↑(ByteArray.size s2) : Int))) (oB (natBnd
 (IntKind.wrap .i64 ((↑(ByteArray.size s1) : Int) - (↑(ByteArray.size s2) : Int))) (ByteArray.size s1)) fun m3 => Q (.bool (bEq (bSub s1 m3 (ByteArray.size s1)) s2))
 h) (Q (.bool false) h)) : EvQ P f_fu [.string s1, .string s2] h Q := fo [] H (by kernel_rfl)
end Go.Proofs.YtamoepfiodgbbaaGreatDoor.E
end
