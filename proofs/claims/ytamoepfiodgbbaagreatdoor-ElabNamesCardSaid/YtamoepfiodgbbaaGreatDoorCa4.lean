/- A deterministic heap for the model, proved sound, and walks of the program over it: part 9. No condition. -/
import Derived.Test.YtamoepfiodgbbaaGreatDoorCa3
set_option linter.unusedVariables false
set_option linter.unusedSimpArgs false
set_option linter.unusedSectionVars false
section
/- Rules of walks, printed by a program of ours: group E11. -/
namespace Go.Proofs.YtamoepfiodgbbaaGreatDoor.E
open Go.Abs
set_option maxRecDepth 100000
variable {h : AW} {Q : Value → AW → Prop}
set_option maxHeartbeats 400000
attribute [local irreducible] kFn kUnit EvQ unitAt
theorem r_dl {s1 : ByteArray} (H : bC (decide ((↑(ByteArray.size s1) : Int) > 60)) (Q (.bool false) h) (unitAt P f_dl 3 [0] [.string
 s1] h Q)) : EvQ P f_dl [.string s1] h Q := fo [(3,[0])] H (by kernel_rfl)
theorem r_dm {s1 : ByteArray} (H : EvQ P f_f4 [.string s1, .string (ByteArray.mk #[47])] h fun v2 h3 => vTup v2 fun l4 => lC l4 fun
 v5 l6 => vStr v5 fun s7 => lC l6 fun v8 l9 => vStr v8 fun s10 => lC l9 fun v11 l12 => vBool v11 fun b13 => lN l12 (EvQ P f_dt [.string s7] h3 fun v14 h15 => vBool v14 fun
 b16 => bC (!b16) (Q (.bool false) h15) (bC (!b13) (Q (.bool true) h15) (unitAt P f_dl 3 [0] [.string s10] h15 Q)))) : unitAt P f_dl 3 [0] [.string s1] h Q := uo [(3,[0])] H (by kernel_rfl)
theorem r_cp {p1 : Option Addr} {p2 : Option Addr} {m3 m4 : Nat} (H : unitAt P f_cp 3 [0, 6, 11, 12, 13] [.pointer p1, .slice
 none 0 0, .slice p2 m3 m4, .int .i64 (↑m3 : Int), .int .i64 0] h Q) : EvQ P f_cp [.pointer p1, .slice p2 m3 m4] h Q := fo [(3,[0,6,11,12,13])] H (by kernel_rfl)
theorem r_cq {p1 : Option Addr} {p2 : Option Addr} {m3 m4 : Nat} {p5 : Option Addr} {m6 m7 : Nat} {n8 n9 : Int} (H : bC
 (decide (n9 < n8)) (aP p5 fun m10 m11 => oB (natIdx n9 m6) fun m12 => oB (AW.rd h m10 (m11 + m12 * 5)) fun v13 => vStr v13 fun s14 => oB (AW.rd h m10 (m11 + m12 * 5 + 1)) fun v15
 => vInt .i64 v15 fun n16 => oB (AW.rd h m10 (m11 + m12 * 5 + 1 + 1)) fun v17 => vInt .i64 v17 fun n18 => oB (AW.rd h m10 (m11 + m12 * 5 + 1 + 1 + 1)) fun v19 =>
 vBool v19 fun b20 => oB (AW.rd h m10 (m11 + m12 * 5 + 1 + 1 + 1 + 1)) fun v21 => vBool v21 fun b22 => oB (AW.wrL (AW.addVar h [.string (ByteArray.mk #[]), .int
 .i64 0, .int .i64 0, .bool false, .bool false]) (AW.next h) 0 [.string s14, .int .i64 n16, .int .i64 n18, .bool
 b20, .bool b22]) fun h23 => oB (AW.rd h23 (AW.next h) 0) fun v24 => vStr v24 fun s25 => oB (AW.rd h23 (AW.next h) 1) fun v26 => vInt .i64 v26 fun n27 => oB (AW.rd h23
 (AW.next h) 2) fun v28 => vInt .i64 v28 fun n29 => oB (AW.rd h23 (AW.next h) 3) fun v30 => vBool v30 fun b31 => oB (AW.rd h23 (AW.next h) 4) fun v32 => vBool v32 fun b33
 => EvQ P f_ck [.pointer p1, .agg (Array.mk [.string s25, .int .i64 n27, .int .i64 n29, .bool b31, .bool b33])] h23 fun v34 h35
 => vTup v34 fun l36 => lC l36 fun v37 l38 => vSl v37 fun p39 m40 m41 => lC l38 fun v42 l43 => vBool v42 fun b44 => lN l43 (bC (!b44) (Q (.tuple (Array.mk [.slice none 0
 0, .bool false])) h35) (oP (appendB P h35 (Array.mk [ty_sl_elab_text, ty_sl_elab_text]) [.slice p2 m3 m4, .slice p39 m40 m41]) fun v45 h46 => vSl v45 fun p47 m48 m49 => unitAt P
 f_cp 3 [0, 6, 11, 12, 13] [.pointer p1, .slice p47 m48 m49, .slice p5 m6 m7, .int .i64 n8, .int .i64 (IntKind.wrap .i64 (n9 + 1))]
 h46 Q))) (Q (.tuple (Array.mk [.slice p2 m3 m4, .bool true])) h)) : unitAt P f_cp 3 [0, 6, 11, 12, 13] [.pointer p1, .slice p2 m3 m4, .slice p5 m6
 m7, .int .i64 n8, .int .i64 n9] h Q := uo [(3,[0,6,11,12,13])] H (by kernel_rfl)
theorem r_ck {p1 : Option Addr} {s2 : ByteArray} {n3 n4 : Int} {b5 b6 : Bool} (H : oB (AW.rd (AW.addVar h [.string s2,
 .int .i64 n3, .int .i64 n4, .bool b5, .bool b6]) (AW.next h) 0) fun v7 => vStr v7 fun s8 => EvQ P f_f5 [.string s8, .string
 (ByteArray.mk #[36, 40])] (AW.addVar h [.string s2, .int .i64 n3, .int .i64 n4, .bool b5, .bool b6]) fun v9 h10 => vTup v9 fun l11 => lC
 l11 fun v12 l13 => vStr v12 fun s14 => lC l13 fun v15 l16 => vBool v15 fun b17 => lN l16 (bC b17 (oB (AW.rd h10 (AW.next h) 3) fun v18 => vBool v18 fun b19 => bC (!b19) (EvQ P
 f_f9 [.string s14, .int .u8 41] h10 fun v20 h21 => vInt .i64 v20 fun n22 => bC (n22 == IntKind.wrap .i64 ((↑(ByteArray.size s14) : Int) - 1)) (bC
 (!bEq s14 (ByteArray.mk #[])) (aP p1 fun m23 m24 => oB (AW.rd h21 m23 (m24 + 2)) fun v25 => vMap v25 fun p26 => oB (natBnd (IntKind.wrap .i64 ((↑(ByteArray.size s14) :
 Int) - 1)) (ByteArray.size s14)) fun m27 => oB (AW.mapL h21 p26) fun l28 => oB (Abs.look TypeDesc.string (.string (bSub s14 0 m27)) l28) fun p29 => vSl (Option.getD p29
 (.slice none 0 0)) fun p30 m31 m32 => bC (!Option.isSome p29) (oB (AW.rd h21 (AW.next h) 0) fun v33 => vStr v33 fun s34 => oB (AW.rd h21 (AW.next h) 1) fun v35 => vInt
 .i64 v35 fun n36 => oB (AW.rd h21 (AW.next h) 2) fun v37 => vInt .i64 v37 fun n38 => oB (AW.rd h21 (AW.next h) 3) fun v39 => vBool v39 fun b40 => oB (AW.rd h21
 (AW.next h) 4) fun v41 => vBool v41 fun b42 => EvQ P f_cf [.pointer p1, .int .i64 151, .agg (Array.mk [.string s34, .int .i64 n36,
 .int .i64 n38, .bool b40, .bool b42])] h21 fun v43 h44 => vBool v43 fun b45 => Q (.tuple (Array.mk [.slice none 0 0, .bool b45])) h44)
 (unitAt P f_ck 8 [0, 3, 6, 63, 64, 65] [.pointer p1, .pointer (some ⟨(AW.next h), 0, none⟩), .slice none 0 0, .slice p30 m31 m32, .int .i64
 (↑m31 : Int), .int .i64 0] h21 Q)) (oB (AW.rd (AW.tag (AW.addVar h21 [.pointer none, .slice none 0 0]) (AW.next h21) ty_strings_Builder) (AW.next h) 0) fun v46 => vStr
 v46 fun s47 => unitAt P f_ck 15 [0, 3, 6, 13, 14, 15] [.pointer p1, .pointer (some ⟨(AW.next h), 0, none⟩), .slice none 0 0, .pointer (some (Addr.mk
 (AW.next h21) 0 none)), .bool false, .string s47] (AW.tag (AW.addVar h21 [.pointer none, .slice none 0 0]) (AW.next h21) ty_strings_Builder) Q)) (oB (AW.rd (AW.tag
 (AW.addVar h21 [.pointer none, .slice none 0 0]) (AW.next h21) ty_strings_Builder) (AW.next h) 0) fun v48 => vStr v48 fun s49 => unitAt P f_ck 15 [0, 3, 6, 13, 14, 15]
 [.pointer p1, .pointer (some ⟨(AW.next h), 0, none⟩), .slice none 0 0, .pointer (some ⟨(AW.next h21), 0, none⟩), .bool false, .string
 s49] (AW.tag (AW.addVar h21 [.pointer none, .slice none 0 0]) (AW.next h21) ty_strings_Builder) Q)) (oB (AW.rd (AW.tag (AW.addVar h10 [.pointer none, .slice none 0 0])
 (AW.next h10) ty_strings_Builder) (AW.next h) 0) fun v50 => vStr v50 fun s51 => unitAt P f_ck 15 [0, 3, 6, 13, 14, 15] [.pointer p1, .pointer (some ⟨(AW.next h), 0, none⟩),
 .slice none 0 0, .pointer (some ⟨(AW.next h10), 0, none⟩), .bool false, .string s51] (AW.tag (AW.addVar h10 [.pointer none, .slice none 0 0])
 (AW.next h10) ty_strings_Builder) Q)) (oB (AW.rd (AW.tag (AW.addVar h10 [.pointer none, .slice none 0 0]) (AW.next h10) ty_strings_Builder) (AW.next h) 0) fun v52 => vStr v52 fun s53 => unitAt P
 f_ck 15 [0, 3, 6, 13, 14, 15] [.pointer p1, .pointer (some ⟨(AW.next h), 0, none⟩), .slice none 0 0, .pointer (some ⟨(AW.next h10), 0, none⟩),
 .bool false, .string s53] (AW.tag (AW.addVar h10 [.pointer none, .slice none 0 0]) (AW.next h10) ty_strings_Builder) Q))) : EvQ P f_ck [.pointer p1, .agg
 (Array.mk [.string s2, .int .i64 n3, .int .i64 n4, .bool b5, .bool b6])] h Q := fo [(8,[0,3,6,63,64,65]),(15,[0,3,6,13,14,15]),(19,[0,3,6,13,14,15,16]),(24,[0,3,6,13,14,15,17,18]),(32,[0,3,6,13,14,15]),(39,[0,3,6,147,148,149])] H (by kernel_rfl)
theorem r_cl {p1 : Option Addr} {m2 : Nat} {p3 : Option Addr} {m4 m5 m6 : Nat} {b7 : Bool} {s8 : ByteArray} (H : bC (!bEq s8
 (ByteArray.mk #[])) (EvQ P f_f9 [.string s8, .int .u8 36] h fun v9 h10 => vInt .i64 v9 fun n11 => bC (decide (n11 < 0)) (unitAt P f_ck 19 [0, 3, 6, 13,
 14, 15, 16] [.pointer p1, .pointer (some ⟨m2, 0, none⟩), .slice p3 m4 m5, .pointer (some ⟨m6, 0, none⟩), .bool b7, .string s8, .int
 .i64 (↑(ByteArray.size s8) : Int)] h10 Q) (unitAt P f_ck 19 [0, 3, 6, 13, 14, 15, 16] [.pointer p1, .pointer (some ⟨m2, 0, none⟩), .slice p3 m4 m5,
 .pointer (some ⟨m6, 0, none⟩), .bool b7, .string s8, .int .i64 n11] h10 Q)) (bC b7 (oB (AW.rd h m2 0) fun v12 => vStr v12 fun s13 => oB (AW.rd h
 m2 1) fun v14 => vInt .i64 v14 fun n15 => oB (AW.rd h m2 2) fun v16 => vInt .i64 v16 fun n17 => oB (AW.rd h m2 3) fun v18 => vBool v18 fun b19 => oB (AW.rd h m2 4)
 fun v20 => vBool v20 fun b21 => EvQ P f_cf [.pointer p1, .int .i64 3, .agg (Array.mk [.string s13, .int .i64 n15, .int .i64
 n17, .bool b19, .bool b21])] h fun v22 h23 => vBool v22 fun b24 => Q (.tuple (Array.mk [.slice none 0 0, .bool b24])) h23) (EvQ P f_df [.pointer
 (some ⟨m6, 0, none⟩)] h fun v25 h26 => vStr v25 fun s27 => oB (AW.rd h26 m2 0) fun v28 => vStr v28 fun s29 => oB (AW.rd h26 m2 1) fun v30 => vInt .i64 v30 fun n31 =>
 oB (AW.rd h26 m2 2) fun v32 => vInt .i64 v32 fun n33 => oB (AW.rd h26 m2 3) fun v34 => vBool v34 fun b35 => oB (AW.rd h26 m2 4) fun v36 => vBool v36 fun b37 => oP (appendB
 P (AW.addVar h26 [.string s27, .string s29, .int .i64 n31, .int .i64 n33, .bool b35, .bool b37]) (Array.mk [ty_sl_elab_text, ty_sl_elab_text])
 [.slice p3 m4 m5, .slice (some ⟨(AW.next h26), 0, none⟩) 1 1]) fun v38 h39 => vSl v38 fun p40 m41 m42 => oB (AW.rd h m2 0) fun v43 => vStr v43 fun s44 => oB
 (AW.rd h m2 1) fun v45 => vInt .i64 v45 fun n46 => oB (AW.rd h m2 2) fun v47 => vInt .i64 v47 fun n48 => oB (AW.rd h m2 3) fun v49 => vBool v49 fun b50 => oB (AW.rd
 h m2 4) fun v51 => vBool v51 fun b52 => Value.agg (Array.mk [.string s44, .int .i64 n46, .int .i64 n48, .bool b50, .bool b52]) = .agg
 (Array.mk [.string s29, .int .i64 n31, .int .i64 n33, .bool b35, .bool b37]) ∧ unitAt P f_ck 39 [0, 3, 6, 147, 148, 149] [.pointer
 p1, .pointer (some ⟨m2, 0, none⟩), .slice p40 m41 m42, .slice p40 m41 m42, .int .i64 (↑m41 : Int), .int .i64 0] h39 Q))) : unitAt P
 f_ck 15 [0, 3, 6, 13, 14, 15] [.pointer p1, .pointer (some ⟨m2, 0, none⟩), .slice p3 m4 m5, .pointer (some ⟨m6, 0, none⟩), .bool b7,
 .string s8] h Q := uo [(8,[0,3,6,63,64,65]),(15,[0,3,6,13,14,15]),(19,[0,3,6,13,14,15,16]),(24,[0,3,6,13,14,15,17,18]),(32,[0,3,6,13,14,15]),(39,[0,3,6,147,148,149])] H (by kernel_rfl)
theorem r_cm {p1 : Option Addr} {m2 : Nat} {p3 : Option Addr} {m4 m5 m6 : Nat} {b7 : Bool} {s8 : ByteArray} {n9 : Int} (H :
 oB (natBnd n9 (ByteArray.size s8)) fun m10 => EvQ P f_dh [.pointer (some ⟨m6, 0, none⟩), .string (bSub s8 0 m10)] h fun v11 h12 => vTup v11 fun l13 => lC l13 fun
 v14 l15 => vInt .i64 v14 fun n16 => lC l15 fun v17 l18 => vIfc v17 (lN l18 (oB (natBnd n9 (ByteArray.size s8)) fun m19 => bC (bEq (bSub s8 m19 (ByteArray.size s8))
 (ByteArray.mk #[])) (unitAt P f_ck 32 [0, 3, 6, 13, 14, 15] [.pointer p1, .pointer (some ⟨m2, 0, none⟩), .slice p3 m4 m5, .pointer (some (Addr.mk m6 0
 none)), .bool b7, .string (bSub s8 m19 (ByteArray.size s8))] h12 Q) (EvQ P f_f6 [.string (bSub s8 m19 (ByteArray.size s8)), .string (ByteArray.mk #[36, 36])]
 h12 fun v20 h21 => vBool v20 fun b22 => bC b22 (EvQ P f_dg [.pointer (some ⟨m6, 0, none⟩), .int .u8 36] h21 fun v23 h24 => vIfc v23 (oB (natBnd 2
 (ByteArray.size (bSub s8 m19 (ByteArray.size s8)))) fun m25 => unitAt P f_ck 32 [0, 3, 6, 13, 14, 15] [.pointer p1, .pointer (some ⟨m2, 0, none⟩), .slice p3
 m4 m5, .pointer (some ⟨m6, 0, none⟩), .bool b7, .string (bSub (bSub s8 m19 (ByteArray.size s8)) m25 (ByteArray.size (bSub s8 m19 (ByteArray.size s8))))] h24
 Q) fun m26 v27 => oB (natBnd 2 (ByteArray.size (bSub s8 m19 (ByteArray.size s8)))) fun m28 => unitAt P f_ck 32 [0, 3, 6, 13, 14, 15] [.pointer p1, .pointer (some
 ⟨m2, 0, none⟩), .slice p3 m4 m5, .pointer (some ⟨m6, 0, none⟩), .bool b7, .string (bSub (bSub s8 m19 (ByteArray.size s8)) m28 (ByteArray.size
 (bSub s8 m19 (ByteArray.size s8))))] h24 Q) (EvQ P f_f6 [.string (bSub s8 m19 (ByteArray.size s8)), .string (ByteArray.mk #[36, 40])] h21 fun v29 h30 => vBool v29 fun
 b31 => bC b31 (oB (natBnd 2 (ByteArray.size (bSub s8 m19 (ByteArray.size s8)))) fun m32 => EvQ P f_ct [.pointer p1, .string (bSub (bSub s8 m19 (ByteArray.size s8)) m32
 (ByteArray.size (bSub s8 m19 (ByteArray.size s8))))] h30 fun v33 h34 => vTup v33 fun l35 => lC l35 fun v36 l37 => vStr v36 fun s38 => lC l37 fun v39 l40 => vBool v39 fun b41 =>
 lN l40 (unitAt P f_ck 24 [0, 3, 6, 13, 14, 15, 17, 18] [.pointer p1, .pointer (some ⟨m2, 0, none⟩), .slice p3 m4 m5, .pointer (some (Addr.mk m6 0
 none)), .bool b7, .string (bSub s8 m19 (ByteArray.size s8)), .string s38, .bool b41] h34 Q)) (unitAt P f_ck 24 [0, 3, 6, 13, 14, 15, 17, 18] [.pointer
 p1, .pointer (some ⟨m2, 0, none⟩), .slice p3 m4 m5, .pointer (some ⟨m6, 0, none⟩), .bool b7, .string (bSub s8 m19 (ByteArray.size s8)),
 .string (ByteArray.mk #[]), .bool false] h30 Q))))) fun m42 v43 => lN l18 (oB (natBnd n9 (ByteArray.size s8)) fun m44 => bC (bEq (bSub s8 m44 (ByteArray.size s8))
 (ByteArray.mk #[])) (unitAt P f_ck 32 [0, 3, 6, 13, 14, 15] [.pointer p1, .pointer (some ⟨m2, 0, none⟩), .slice p3 m4 m5, .pointer (some (Addr.mk m6 0
 none)), .bool b7, .string (bSub s8 m44 (ByteArray.size s8))] h12 Q) (EvQ P f_f6 [.string (bSub s8 m44 (ByteArray.size s8)), .string (ByteArray.mk #[36, 36])]
 h12 fun v45 h46 => vBool v45 fun b47 => bC b47 (EvQ P f_dg [.pointer (some ⟨m6, 0, none⟩), .int .u8 36] h46 fun v48 h49 => vIfc v48 (oB (natBnd 2
 (ByteArray.size (bSub s8 m44 (ByteArray.size s8)))) fun m50 => unitAt P f_ck 32 [0, 3, 6, 13, 14, 15] [.pointer p1, .pointer (some ⟨m2, 0, none⟩), .slice p3
 m4 m5, .pointer (some ⟨m6, 0, none⟩), .bool b7, .string (bSub (bSub s8 m44 (ByteArray.size s8)) m50 (ByteArray.size (bSub s8 m44 (ByteArray.size s8))))] h49
 Q) fun m51 v52 => oB (natBnd 2 (ByteArray.size (bSub s8 m44 (ByteArray.size s8)))) fun m53 => unitAt P f_ck 32 [0, 3, 6, 13, 14, 15] [.pointer p1, .pointer (some
 ⟨m2, 0, none⟩), .slice p3 m4 m5, .pointer (some ⟨m6, 0, none⟩), .bool b7, .string (bSub (bSub s8 m44 (ByteArray.size s8)) m53 (ByteArray.size
 (bSub s8 m44 (ByteArray.size s8))))] h49 Q) (EvQ P f_f6 [.string (bSub s8 m44 (ByteArray.size s8)), .string (ByteArray.mk #[36, 40])] h46 fun v54 h55 => vBool v54 fun
 b56 => bC b56 (oB (natBnd 2 (ByteArray.size (bSub s8 m44 (ByteArray.size s8)))) fun m57 => EvQ P f_ct [.pointer p1, .string (bSub (bSub s8 m44 (ByteArray.size s8)) m57
 (ByteArray.size (bSub s8 m44 (ByteArray.size s8))))] h55 fun v58 h59 => vTup v58 fun l60 => lC l60 fun v61 l62 => vStr v61 fun s63 => lC l62 fun v64 l65 => vBool v64 fun b66 =>
 lN l65 (unitAt P f_ck 24 [0, 3, 6, 13, 14, 15, 17, 18] [.pointer p1, .pointer (some ⟨m2, 0, none⟩), .slice p3 m4 m5, .pointer (some (Addr.mk m6 0
 none)), .bool b7, .string (bSub s8 m44 (ByteArray.size s8)), .string s63, .bool b66] h59 Q)) (unitAt P f_ck 24 [0, 3, 6, 13, 14, 15, 17, 18] [.pointer
 p1, .pointer (some ⟨m2, 0, none⟩), .slice p3 m4 m5, .pointer (some ⟨m6, 0, none⟩), .bool b7, .string (bSub s8 m44 (ByteArray.size s8)),
 .string (ByteArray.mk #[]), .bool false] h55 Q))))) : unitAt P f_ck 19 [0, 3, 6, 13, 14, 15, 16] [.pointer p1, .pointer (some ⟨m2, 0, none⟩),
 .slice p3 m4 m5, .pointer (some ⟨m6, 0, none⟩), .bool b7, .string s8, .int .i64 n9] h Q := uo [(8,[0,3,6,63,64,65]),(15,[0,3,6,13,14,15]),(19,[0,3,6,13,14,15,16]),(24,[0,3,6,13,14,15,17,18]),(32,[0,3,6,13,14,15]),(39,[0,3,6,147,148,149])] H (by kernel_rfl)
theorem r_cn {p1 : Option Addr} {m2 : Nat} {p3 : Option Addr} {m4 m5 m6 : Nat} {b7 : Bool} {s8 : ByteArray} (H : aP p1 fun m9
 m10 => oB (AW.rd h m9 (m10 + 3)) fun v11 => vInt .i64 v11 fun n12 => EvQ P f_dd [.pointer (some ⟨m6, 0, none⟩)] h fun v13 h14 => vInt .i64 v13 fun n15
 => oB (AW.rd h14 m9 (m10 + 3)) fun v16 => vInt .i64 v16 fun n17 => Value.int .i64 n17 = .int .i64 n12 ∧ bC (decide (IntKind.wrap .i64 (n12 + n15)
 > 32768)) (EvQ P f_de [.pointer (some ⟨m6, 0, none⟩)] h14 fun v18 h19 => unitAt P f_ck 15 [0, 3, 6, 13, 14, 15] [.pointer p1, .pointer (some (Addr.mk m2 0
 none)), .slice p3 m4 m5, .pointer (some ⟨m6, 0, none⟩), .bool true, .string s8] h19 Q) (unitAt P f_ck 15 [0, 3, 6, 13, 14, 15] [.pointer p1,
 .pointer (some ⟨m2, 0, none⟩), .slice p3 m4 m5, .pointer (some ⟨m6, 0, none⟩), .bool b7, .string s8] h14 Q)) : unitAt P f_ck 32 [0, 3, 6,
 13, 14, 15] [.pointer p1, .pointer (some ⟨m2, 0, none⟩), .slice p3 m4 m5, .pointer (some ⟨m6, 0, none⟩), .bool b7, .string s8] h Q := uo [(8,[0,3,6,63,64,65]),(15,[0,3,6,13,14,15]),(19,[0,3,6,13,14,15,16]),(24,[0,3,6,13,14,15,17,18]),(32,[0,3,6,13,14,15]),(39,[0,3,6,147,148,149])] H (by kernel_rfl)
theorem r_co {p1 : Option Addr} {m2 : Nat} {p3 : Option Addr} {m4 m5 : Nat} {p6 : Option Addr} {m7 m8 : Nat} {n9 n10 : Int} (H : bC (decide (n10 < n9)) (aP p6 fun m11 m12 => oB (natIdx n10 m7) fun m13 => oB (AW.rd h m11 (m12 + m13 * 6)) fun v14 => vStr v14 fun s15 => oB (AW.rd h m11 (m12 + m13 *
 6 + 1)) fun v16 => vStr v16 fun s17 => oB (AW.rd h m11 (m12 + m13 * 6 + 1 + 1)) fun v18 => vInt .i64 v18 fun n19 => oB (AW.rd h m11 (m12 + m13 * 6 + 1 + 1 + 1)) fun v20 =>
 vInt .i64 v20 fun n21 => oB (AW.rd h m11 (m12 + m13 * 6 + 1 + 1 + 1 + 1)) fun v22 => vBool v22 fun b23 => oB (AW.rd h m11 (m12 + m13 * 6 + 1 + 1 + 1 + 1 + 1)) fun v24 =>
 vBool v24 fun b25 => oB (AW.wrL (AW.addVar h [.string (ByteArray.mk #[]), .string (ByteArray.mk #[]), .int .i64 0, .int .i64 0, .bool
 false, .bool false]) (AW.next h) 0 [.string s15, .string s17, .int .i64 n19, .int .i64 n21, .bool b23, .bool b25]) fun h26 => aP
 p1 fun m27 m28 => oB (AW.rd h26 m27 (m28 + 3)) fun v29 => vInt .i64 v29 fun n30 => oB (AW.rd h26 (AW.next h) 0) fun v31 => vStr v31 fun s32 => aP p1 fun m33 m34 => oB
 (AW.wr h26 m33 (m34 + 3) (.int .i64 (IntKind.wrap .i64 (n30 + (↑(ByteArray.size s32) : Int))))) fun h35 => unitAt P f_ck 39 [0, 3, 6, 147, 148, 149]
 [.pointer p1, .pointer (some ⟨m2, 0, none⟩), .slice p3 m4 m5, .slice p6 m7 m8, .int .i64 n9, .int .i64 (IntKind.wrap .i64
 (n10 + 1))] h35 Q) (aP p1 fun m36 m37 => oB (AW.rd h m36 (m37 + 3)) fun v38 => vInt .i64 v38 fun n39 => bC (decide (n39 > 32768)) (oB (AW.rd h m2 0) fun v40 => vStr v40
 fun s41 => oB (AW.rd h m2 1) fun v42 => vInt .i64 v42 fun n43 => oB (AW.rd h m2 2) fun v44 => vInt .i64 v44 fun n45 => oB (AW.rd h m2 3) fun v46 => vBool v46 fun
 b47 => oB (AW.rd h m2 4) fun v48 => vBool v48 fun b49 => EvQ P f_cf [.pointer p1, .int .i64 3, .agg (Array.mk [.string s41, .int .i64 n43,
 .int .i64 n45, .bool b47, .bool b49])] h fun v50 h51 => vBool v50 fun b52 => Q (.tuple (Array.mk [.slice none 0 0, .bool b52])) h51) (Q
 (.tuple (Array.mk [.slice p3 m4 m5, .bool true])) h))) : unitAt P f_ck 39 [0, 3, 6, 147, 148, 149] [.pointer p1, .pointer (some ⟨m2, 0, none⟩),
 .slice p3 m4 m5, .slice p6 m7 m8, .int .i64 n9, .int .i64 n10] h Q := uo [(8,[0,3,6,63,64,65]),(15,[0,3,6,13,14,15]),(19,[0,3,6,13,14,15,16]),(24,[0,3,6,13,14,15,17,18]),(32,[0,3,6,13,14,15]),(39,[0,3,6,147,148,149])] H (by kernel_rfl)
theorem r_a5 {n1 : Int} {m2 m3 : Nat} {m4 m5 : Nat} {m6 m7 : Nat} {m8 m9 : Nat} {m10 m11 : Nat} (H :
 unitAt P f_a5 2 [0, 1, 2, 3, 4, 5, 8] [.int .i64 n1, .pointer (some ⟨m2, m3, none⟩), .pointer (some ⟨m4, m5, none⟩), .pointer (some
 ⟨m6, m7, none⟩), .pointer (some ⟨m8, m9, none⟩), .pointer (some ⟨m10, m11, none⟩), .slice none 0 0] h Q) : EvQ P f_a5 [.int .i64 n1,
 .pointer (some ⟨m2, m3, none⟩), .pointer (some ⟨m4, m5, none⟩), .pointer (some ⟨m6, m7, none⟩), .pointer (some ⟨m8, m9, none⟩),
 .pointer (some ⟨m10, m11, none⟩)] h Q := fo [(2,[0,1,2,3,4,5,8])] H (by kernel_rfl)
theorem r_a6 {n1 : Int} {m2 m3 : Nat} {m4 m5 : Nat} {m6 m7 : Nat} {m8 m9 : Nat} {m10 m11 : Nat} {p12 : Option Addr} {m13 m14 : Nat} (H : oB (AW.rd h m2 m3) fun v15 => vInt .i64 v15 fun n16 => bC (n16 == 0) (oB (AW.rd h m4 m5) fun v17 => vFun v17 fun m18 l19 l20 =>
 EvQ P m18 (l19 ++ ([] ++ l20)) h fun v21 h22 => vTup v21 fun l23 => lC l23 fun v24 l25 => vSl v24 fun p26 m27 m28 => lC l25 fun v29 l30 => vBool v29 fun b31 => lN l30 (bC (!b31)
 (bC (decide (n1 > 0)) (oB (AW.rd h22 m6 m7) fun v32 => vInt .i64 v32 fun n33 => oB (AW.wrL h22 m2 m3 [.int .i64 131, .int .i64 n33]) fun h34 => Q
 (.slice p12 m13 m14) h34) (Q (.slice p12 m13 m14) h22)) (bC ((↑m27 : Int) == 1) (aP p26 fun m35 m36 => oB (natIdx 0 m27) fun m37 => oB (AW.rd h22 m35 (m36 + m37 * 1))
 fun v38 => vStr v38 fun s39 => bC (bEq s39 (ByteArray.mk #[101, 110, 100])) (bC (n1 == 0) (oB (AW.rd h22 m6 m7) fun v40 => vInt .i64 v40 fun n41 => oB (AW.wrL h22 m2 m3
 [.int .i64 131, .int .i64 (IntKind.wrap .i64 (n41 - 1))]) fun h42 => Q (.slice p12 m13 m14) h42) (Q (.slice p12 m13 m14) h22)) (EvQ P
 f_am [.slice p26 m27 m28] h22 fun v43 h44 => vTup v43 fun l45 => lC l45 fun v46 l47 => vAgg v46 fun l48 => lC l48 fun v49 l50 => vInt .i64 v49 fun n51 => lC l50 fun
 v52 l53 => vSl v52 fun p54 m55 m56 => lC l53 fun v57 l58 => vInt .i64 v57 fun n59 => lC l58 fun v60 l61 => vSl v60 fun p62 m63 m64 => lN l61 (lC l47 fun v65 l66 => vBool
 v65 fun b67 => lN l66 (oB (AW.wrL (AW.addVar h44 [.int .i64 0, .slice none 0 0, .int .i64 0, .slice none 0 0]) (AW.next h44) 0 [.int
 .i64 n51, .slice p54 m55 m56, .int .i64 n59, .slice p62 m63 m64]) fun h68 => oB (AW.rd h68 m8 m9) fun v69 => vInt .i64 v69 fun n70 => oB
 (AW.wr h68 m8 m9 (.int .i64 (IntKind.wrap .i64 (n70 + 1)))) fun h71 => bC (!b67) (oB (AW.rd h71 m6 m7) fun v72 => vInt .i64 v72 fun n73 => oB (AW.wrL
 h71 m2 m3 [.int .i64 130, .int .i64 (IntKind.wrap .i64 (n73 - 1))]) fun h74 => oB (AW.rd h74 (AW.next h44) 0) fun v75 => vInt .i64 v75 fun
 n76 => oB (AW.rd h74 (AW.next h44) 1) fun v77 => vSl v77 fun p78 m79 m80 => oB (AW.rd h74 (AW.next h44) 2) fun v81 => vInt .i64 v81 fun n82 => oB (AW.rd h74 (AW.next h44)
 3) fun v83 => vSl v83 fun p84 m85 m86 => oP (appendB P (AW.addVar h74 [.int .i64 n76, .slice p78 m79 m80, .int .i64 n82, .slice p84 m85 m86])
 (Array.mk [ty_sl_api_Stmt, ty_sl_api_Stmt]) [.slice p12 m13 m14, .slice (some ⟨(AW.next h74), 0, none⟩) 1 1]) fun v87 h88 => vSl v87 fun p89 m90 m91 => unitAt P f_a5 2 [0, 1, 2,
 3, 4, 5, 8] [.int .i64 n1, .pointer (some ⟨m2, m3, none⟩), .pointer (some ⟨m4, m5, none⟩), .pointer (some ⟨m6, m7, none⟩),
 .pointer (some ⟨m8, m9, none⟩), .pointer (some ⟨m10, m11, none⟩), .slice p89 m90 m91] h88 Q) (oB (AW.rd h71 m8 m9) fun v92 => vInt .i64 v92 fun
 n93 => bC (decide (n93 > 256)) (oB (AW.rd h71 m6 m7) fun v94 => vInt .i64 v94 fun n95 => oB (AW.wrL h71 m2 m3 [.int .i64 3, .int .i64 (IntKind.wrap
 .i64 (n95 - 1))]) fun h96 => oB (AW.rd h96 (AW.next h44) 0) fun v97 => vInt .i64 v97 fun n98 => oB (AW.rd h96 (AW.next h44) 1) fun v99 => vSl v99 fun p100 m101 m102
 => oB (AW.rd h96 (AW.next h44) 2) fun v103 => vInt .i64 v103 fun n104 => oB (AW.rd h96 (AW.next h44) 3) fun v105 => vSl v105 fun p106 m107 m108 => oP (appendB P (AW.addVar
 h96 [.int .i64 n98, .slice p100 m101 m102, .int .i64 n104, .slice p106 m107 m108]) (Array.mk [ty_sl_api_Stmt, ty_sl_api_Stmt]) [.slice p12 m13 m14,
 .slice (some ⟨(AW.next h96), 0, none⟩) 1 1]) fun v109 h110 => vSl v109 fun p111 m112 m113 => unitAt P f_a5 2 [0, 1, 2, 3, 4, 5, 8] [.int .i64 n1,
 .pointer (some ⟨m2, m3, none⟩), .pointer (some ⟨m4, m5, none⟩), .pointer (some ⟨m6, m7, none⟩), .pointer (some ⟨m8, m9, none⟩),
 .pointer (some ⟨m10, m11, none⟩), .slice p111 m112 m113] h110 Q) (oB (AW.rd h71 (AW.next h44) 0) fun v114 => vInt .i64 v114 fun n115 => EvQ P f_aj
 [.int .i64 n115] h71 fun v116 h117 => vBool v116 fun b118 => bC b118 (bC (n1 == 8) (oB (AW.rd h117 m6 m7) fun v119 => vInt .i64 v119 fun n120 => oB (AW.wrL
 h117 m2 m3 [.int .i64 132, .int .i64 (IntKind.wrap .i64 (n120 - 1))]) fun h121 => oB (AW.rd h121 (AW.next h44) 0) fun v122 => vInt .i64 v122
 fun n123 => oB (AW.rd h121 (AW.next h44) 1) fun v124 => vSl v124 fun p125 m126 m127 => oB (AW.rd h121 (AW.next h44) 2) fun v128 => vInt .i64 v128 fun n129 => oB (AW.rd
 h121 (AW.next h44) 3) fun v130 => vSl v130 fun p131 m132 m133 => oP (appendB P (AW.addVar h121 [.int .i64 n123, .slice p125 m126 m127, .int .i64
 n129, .slice p131 m132 m133]) (Array.mk [ty_sl_api_Stmt, ty_sl_api_Stmt]) [.slice p12 m13 m14, .slice (some ⟨(AW.next h121), 0, none⟩) 1 1]) fun v134 h135 => vSl v134 fun p136
 m137 m138 => unitAt P f_a5 2 [0, 1, 2, 3, 4, 5, 8] [.int .i64 n1, .pointer (some ⟨m2, m3, none⟩), .pointer (some ⟨m4, m5, none⟩), .pointer
 (some ⟨m6, m7, none⟩), .pointer (some ⟨m8, m9, none⟩), .pointer (some ⟨m10, m11, none⟩), .slice p136 m137 m138] h135 Q) (oB (AW.rd h117 (AW.next
 h44) 0) fun v139 => vInt .i64 v139 fun n140 => EvQ P f_aj [.int .i64 n140] h117 fun v141 h142 => vBool v141 fun b143 => bC b143 (oB (AW.rd h142 m10 m11) fun
 v144 => vFun v144 fun m145 l146 l147 => EvQ P m145 (l146 ++ .int .i64 (IntKind.wrap .i64 (n1 + 1)) :: l147) h142 fun v148 h149 => vSl v148 fun p150 m151 m152
 => oB (AW.wr h149 (AW.next h44) 3 (.slice p150 m151 m152)) fun h153 => oB (AW.rd h153 (AW.next h44) 0) fun v154 => vInt .i64 v154 fun n155 => oB (AW.rd h153 (AW.next
 h44) 1) fun v156 => vSl v156 fun p157 m158 m159 => oB (AW.rd h153 (AW.next h44) 2) fun v160 => vInt .i64 v160 fun n161 => oB (AW.rd h153 (AW.next h44) 3) fun v162 => vSl
 v162 fun p163 m164 m165 => oP (appendB P (AW.addVar h153 [.int .i64 n155, .slice p157 m158 m159, .int .i64 n161, .slice p163 m164 m165])
 (Array.mk [ty_sl_api_Stmt, ty_sl_api_Stmt]) [.slice p12 m13 m14, .slice (some ⟨(AW.next h153), 0, none⟩) 1 1]) fun v166 h167 => vSl v166 fun p168 m169 m170 => unitAt P f_a5 2 [0,
 1, 2, 3, 4, 5, 8] [.int .i64 n1, .pointer (some ⟨m2, m3, none⟩), .pointer (some ⟨m4, m5, none⟩), .pointer (some ⟨m6, m7, none⟩),
 .pointer (some ⟨m8, m9, none⟩), .pointer (some ⟨m10, m11, none⟩), .slice p168 m169 m170] h167 Q) (oB (AW.rd h142 (AW.next h44) 0) fun v171 => vInt
 .i64 v171 fun n172 => oB (AW.rd h142 (AW.next h44) 1) fun v173 => vSl v173 fun p174 m175 m176 => oB (AW.rd h142 (AW.next h44) 2) fun v177 => vInt .i64 v177 fun n178
 => oB (AW.rd h142 (AW.next h44) 3) fun v179 => vSl v179 fun p180 m181 m182 => oP (appendB P (AW.addVar h142 [.int .i64 n172, .slice p174 m175 m176, .int
 .i64 n178, .slice p180 m181 m182]) (Array.mk [ty_sl_api_Stmt, ty_sl_api_Stmt]) [.slice p12 m13 m14, .slice (some ⟨(AW.next h142), 0, none⟩) 1 1]) fun v183 h184 => vSl
 v183 fun p185 m186 m187 => unitAt P f_a5 2 [0, 1, 2, 3, 4, 5, 8] [.int .i64 n1, .pointer (some ⟨m2, m3, none⟩), .pointer (some ⟨m4, m5, none⟩),
 .pointer (some ⟨m6, m7, none⟩), .pointer (some ⟨m8, m9, none⟩), .pointer (some ⟨m10, m11, none⟩), .slice p185 m186 m187] h184 Q))) (oB
 (AW.rd h117 (AW.next h44) 0) fun v188 => vInt .i64 v188 fun n189 => EvQ P f_aj [.int .i64 n189] h117 fun v190 h191 => vBool v190 fun b192 => bC b192 (oB (AW.rd
 h191 m10 m11) fun v193 => vFun v193 fun m194 l195 l196 => EvQ P m194 (l195 ++ .int .i64 (IntKind.wrap .i64 (n1 + 1)) :: l196) h191 fun v197 h198 => vSl v197
 fun p199 m200 m201 => oB (AW.wr h198 (AW.next h44) 3 (.slice p199 m200 m201)) fun h202 => oB (AW.rd h202 (AW.next h44) 0) fun v203 => vInt .i64 v203 fun n204 => oB
 (AW.rd h202 (AW.next h44) 1) fun v205 => vSl v205 fun p206 m207 m208 => oB (AW.rd h202 (AW.next h44) 2) fun v209 => vInt .i64 v209 fun n210 => oB (AW.rd h202 (AW.next h44)
 3) fun v211 => vSl v211 fun p212 m213 m214 => oP (appendB P (AW.addVar h202 [.int .i64 n204, .slice p206 m207 m208, .int .i64 n210, .slice p212
 m213 m214]) (Array.mk [ty_sl_api_Stmt, ty_sl_api_Stmt]) [.slice p12 m13 m14, .slice (some ⟨(AW.next h202), 0, none⟩) 1 1]) fun v215 h216 => vSl v215 fun p217 m218 m219 => unitAt P
 f_a5 2 [0, 1, 2, 3, 4, 5, 8] [.int .i64 n1, .pointer (some ⟨m2, m3, none⟩), .pointer (some ⟨m4, m5, none⟩), .pointer (some (Addr.mk m6 m7
 none)), .pointer (some ⟨m8, m9, none⟩), .pointer (some ⟨m10, m11, none⟩), .slice p217 m218 m219] h216 Q) (oB (AW.rd h191 (AW.next h44) 0) fun v220 =>
 vInt .i64 v220 fun n221 => oB (AW.rd h191 (AW.next h44) 1) fun v222 => vSl v222 fun p223 m224 m225 => oB (AW.rd h191 (AW.next h44) 2) fun v226 => vInt .i64 v226 fun
 n227 => oB (AW.rd h191 (AW.next h44) 3) fun v228 => vSl v228 fun p229 m230 m231 => oP (appendB P (AW.addVar h191 [.int .i64 n221, .slice p223 m224 m225,
 .int .i64 n227, .slice p229 m230 m231]) (Array.mk [ty_sl_api_Stmt, ty_sl_api_Stmt]) [.slice p12 m13 m14, .slice (some ⟨(AW.next h191), 0, none⟩) 1 1]) fun v232
 h233 => vSl v232 fun p234 m235 m236 => unitAt P f_a5 2 [0, 1, 2, 3, 4, 5, 8] [.int .i64 n1, .pointer (some ⟨m2, m3, none⟩), .pointer (some (Addr.mk
 m4 m5 none)), .pointer (some ⟨m6, m7, none⟩), .pointer (some ⟨m8, m9, none⟩), .pointer (some ⟨m10, m11, none⟩), .slice p234 m235 m236] h233
 Q)))))))) (EvQ P f_am [.slice p26 m27 m28] h22 fun v237 h238 => vTup v237 fun l239 => lC l239 fun v240 l241 => vAgg v240 fun l242 => lC l242 fun v243 l244 => vInt
 .i64 v243 fun n245 => lC l244 fun v246 l247 => vSl v246 fun p248 m249 m250 => lC l247 fun v251 l252 => vInt .i64 v251 fun n253 => lC l252 fun v254 l255 => vSl v254
 fun p256 m257 m258 => lN l255 (lC l241 fun v259 l260 => vBool v259 fun b261 => lN l260 (oB (AW.wrL (AW.addVar h238 [.int .i64 0, .slice none 0 0, .int
 .i64 0, .slice none 0 0]) (AW.next h238) 0 [.int .i64 n245, .slice p248 m249 m250, .int .i64 n253, .slice p256 m257 m258]) fun h262
 => oB (AW.rd h262 m8 m9) fun v263 => vInt .i64 v263 fun n264 => oB (AW.wr h262 m8 m9 (.int .i64 (IntKind.wrap .i64 (n264 + 1)))) fun h265 => bC (!b261)
 (oB (AW.rd h265 m6 m7) fun v266 => vInt .i64 v266 fun n267 => oB (AW.wrL h265 m2 m3 [.int .i64 130, .int .i64 (IntKind.wrap .i64 (n267 -
 1))]) fun h268 => oB (AW.rd h268 (AW.next h238) 0) fun v269 => vInt .i64 v269 fun n270 => oB (AW.rd h268 (AW.next h238) 1) fun v271 => vSl v271 fun p272 m273 m274 => oB
 (AW.rd h268 (AW.next h238) 2) fun v275 => vInt .i64 v275 fun n276 => oB (AW.rd h268 (AW.next h238) 3) fun v277 => vSl v277 fun p278 m279 m280 => oP (appendB P (AW.addVar
 h268 [.int .i64 n270, .slice p272 m273 m274, .int .i64 n276, .slice p278 m279 m280]) (Array.mk [ty_sl_api_Stmt, ty_sl_api_Stmt]) [.slice p12 m13 m14,
 .slice (some ⟨(AW.next h268), 0, none⟩) 1 1]) fun v281 h282 => vSl v281 fun p283 m284 m285 => unitAt P f_a5 2 [0, 1, 2, 3, 4, 5, 8] [.int .i64 n1,
 .pointer (some ⟨m2, m3, none⟩), .pointer (some ⟨m4, m5, none⟩), .pointer (some ⟨m6, m7, none⟩), .pointer (some ⟨m8, m9, none⟩),
 .pointer (some ⟨m10, m11, none⟩), .slice p283 m284 m285] h282 Q) (oB (AW.rd h265 m8 m9) fun v286 => vInt .i64 v286 fun n287 => bC (decide (n287 > 256)) (oB
 (AW.rd h265 m6 m7) fun v288 => vInt .i64 v288 fun n289 => oB (AW.wrL h265 m2 m3 [.int .i64 3, .int .i64 (IntKind.wrap .i64 (n289 - 1))]) fun
 h290 => oB (AW.rd h290 (AW.next h238) 0) fun v291 => vInt .i64 v291 fun n292 => oB (AW.rd h290 (AW.next h238) 1) fun v293 => vSl v293 fun p294 m295 m296 => oB (AW.rd h290
 (AW.next h238) 2) fun v297 => vInt .i64 v297 fun n298 => oB (AW.rd h290 (AW.next h238) 3) fun v299 => vSl v299 fun p300 m301 m302 => oP (appendB P (AW.addVar h290
 [.int .i64 n292, .slice p294 m295 m296, .int .i64 n298, .slice p300 m301 m302]) (Array.mk [ty_sl_api_Stmt, ty_sl_api_Stmt]) [.slice p12 m13 m14, .slice
 (some ⟨(AW.next h290), 0, none⟩) 1 1]) fun v303 h304 => vSl v303 fun p305 m306 m307 => unitAt P f_a5 2 [0, 1, 2, 3, 4, 5, 8] [.int .i64 n1, .pointer (some
 ⟨m2, m3, none⟩), .pointer (some ⟨m4, m5, none⟩), .pointer (some ⟨m6, m7, none⟩), .pointer (some ⟨m8, m9, none⟩), .pointer (some
 ⟨m10, m11, none⟩), .slice p305 m306 m307] h304 Q) (oB (AW.rd h265 (AW.next h238) 0) fun v308 => vInt .i64 v308 fun n309 => EvQ P f_aj [.int .i64
 n309] h265 fun v310 h311 => vBool v310 fun b312 => bC b312 (bC (n1 == 8) (oB (AW.rd h311 m6 m7) fun v313 => vInt .i64 v313 fun n314 => oB (AW.wrL h311 m2 m3 [.int
 .i64 132, .int .i64 (IntKind.wrap .i64 (n314 - 1))]) fun h315 => oB (AW.rd h315 (AW.next h238) 0) fun v316 => vInt .i64 v316 fun n317 => oB
 (AW.rd h315 (AW.next h238) 1) fun v318 => vSl v318 fun p319 m320 m321 => oB (AW.rd h315 (AW.next h238) 2) fun v322 => vInt .i64 v322 fun n323 => oB (AW.rd h315 (AW.next
 h238) 3) fun v324 => vSl v324 fun p325 m326 m327 => oP (appendB P (AW.addVar h315 [.int .i64 n317, .slice p319 m320 m321, .int .i64 n323, .slice
 p325 m326 m327]) (Array.mk [ty_sl_api_Stmt, ty_sl_api_Stmt]) [.slice p12 m13 m14, .slice (some ⟨(AW.next h315), 0, none⟩) 1 1]) fun v328 h329 => vSl v328 fun p330 m331 m332 =>
 unitAt P f_a5 2 [0, 1, 2, 3, 4, 5, 8] [.int .i64 n1, .pointer (some ⟨m2, m3, none⟩), .pointer (some ⟨m4, m5, none⟩), .pointer (some
 ⟨m6, m7, none⟩), .pointer (some ⟨m8, m9, none⟩), .pointer (some ⟨m10, m11, none⟩), .slice p330 m331 m332] h329 Q) (oB (AW.rd h311 (AW.next h238)
 0) fun v333 => vInt .i64 v333 fun n334 => EvQ P f_aj [.int .i64 n334] h311 fun v335 h336 => vBool v335 fun b337 => bC b337 (oB (AW.rd h336 m10 m11) fun v338 =>
 vFun v338 fun m339 l340 l341 => EvQ P m339 (l340 ++ .int .i64 (IntKind.wrap .i64 (n1 + 1)) :: l341) h336 fun v342 h343 => vSl v342 fun p344 m345 m346 => oB
 (AW.wr h343 (AW.next h238) 3 (.slice p344 m345 m346)) fun h347 => oB (AW.rd h347 (AW.next h238) 0) fun v348 => vInt .i64 v348 fun n349 => oB (AW.rd h347 (AW.next
 h238) 1) fun v350 => vSl v350 fun p351 m352 m353 => oB (AW.rd h347 (AW.next h238) 2) fun v354 => vInt .i64 v354 fun n355 => oB (AW.rd h347 (AW.next h238) 3) fun v356 =>
 vSl v356 fun p357 m358 m359 => oP (appendB P (AW.addVar h347 [.int .i64 n349, .slice p351 m352 m353, .int .i64 n355, .slice p357 m358 m359])
 (Array.mk [ty_sl_api_Stmt, ty_sl_api_Stmt]) [.slice p12 m13 m14, .slice (some ⟨(AW.next h347), 0, none⟩) 1 1]) fun v360 h361 => vSl v360 fun p362 m363 m364 => unitAt P f_a5 2 [0,
 1, 2, 3, 4, 5, 8] [.int .i64 n1, .pointer (some ⟨m2, m3, none⟩), .pointer (some ⟨m4, m5, none⟩), .pointer (some ⟨m6, m7, none⟩),
 .pointer (some ⟨m8, m9, none⟩), .pointer (some ⟨m10, m11, none⟩), .slice p362 m363 m364] h361 Q) (oB (AW.rd h336 (AW.next h238) 0) fun v365 => vInt
 .i64 v365 fun n366 => oB (AW.rd h336 (AW.next h238) 1) fun v367 => vSl v367 fun p368 m369 m370 => oB (AW.rd h336 (AW.next h238) 2) fun v371 => vInt .i64 v371 fun
 n372 => oB (AW.rd h336 (AW.next h238) 3) fun v373 => vSl v373 fun p374 m375 m376 => oP (appendB P (AW.addVar h336 [.int .i64 n366, .slice p368 m369 m370,
 .int .i64 n372, .slice p374 m375 m376]) (Array.mk [ty_sl_api_Stmt, ty_sl_api_Stmt]) [.slice p12 m13 m14, .slice (some ⟨(AW.next h336), 0, none⟩) 1 1]) fun v377
 h378 => vSl v377 fun p379 m380 m381 => unitAt P f_a5 2 [0, 1, 2, 3, 4, 5, 8] [.int .i64 n1, .pointer (some ⟨m2, m3, none⟩), .pointer (some (Addr.mk
 m4 m5 none)), .pointer (some ⟨m6, m7, none⟩), .pointer (some ⟨m8, m9, none⟩), .pointer (some ⟨m10, m11, none⟩), .slice p379 m380 m381] h378
 Q))) (oB (AW.rd h311 (AW.next h238) 0) fun v382 => vInt .i64 v382 fun n383 => EvQ P f_aj [.int .i64 n383] h311 fun v384 h385 => vBool v384 fun b386 => bC b386
 (oB (AW.rd h385 m10 m11) fun v387 => vFun v387 fun m388 l389 l390 => EvQ P m388 (l389 ++ .int .i64 (IntKind.wrap .i64 (n1 + 1)) :: l390) h385 fun v391 h392 =>
 vSl v391 fun p393 m394 m395 => oB (AW.wr h392 (AW.next h238) 3 (.slice p393 m394 m395)) fun h396 => oB (AW.rd h396 (AW.next h238) 0) fun v397 => vInt .i64 v397 fun
 n398 => oB (AW.rd h396 (AW.next h238) 1) fun v399 => vSl v399 fun p400 m401 m402 => oB (AW.rd h396 (AW.next h238) 2) fun v403 => vInt .i64 v403 fun n404 => oB (AW.rd h396
 (AW.next h238) 3) fun v405 => vSl v405 fun p406 m407 m408 => oP (appendB P (AW.addVar h396 [.int .i64 n398, .slice p400 m401 m402, .int .i64 n404,
 .slice p406 m407 m408]) (Array.mk [ty_sl_api_Stmt, ty_sl_api_Stmt]) [.slice p12 m13 m14, .slice (some ⟨(AW.next h396), 0, none⟩) 1 1]) fun v409 h410 => vSl v409 fun p411 m412
 m413 => unitAt P f_a5 2 [0, 1, 2, 3, 4, 5, 8] [.int .i64 n1, .pointer (some ⟨m2, m3, none⟩), .pointer (some ⟨m4, m5, none⟩), .pointer
 (some ⟨m6, m7, none⟩), .pointer (some ⟨m8, m9, none⟩), .pointer (some ⟨m10, m11, none⟩), .slice p411 m412 m413] h410 Q) (oB (AW.rd h385 (AW.next
 h238) 0) fun v414 => vInt .i64 v414 fun n415 => oB (AW.rd h385 (AW.next h238) 1) fun v416 => vSl v416 fun p417 m418 m419 => oB (AW.rd h385 (AW.next h238) 2) fun v420 =>
 vInt .i64 v420 fun n421 => oB (AW.rd h385 (AW.next h238) 3) fun v422 => vSl v422 fun p423 m424 m425 => oP (appendB P (AW.addVar h385 [.int .i64 n415,
 .slice p417 m418 m419, .int .i64 n421, .slice p423 m424 m425]) (Array.mk [ty_sl_api_Stmt, ty_sl_api_Stmt]) [.slice p12 m13 m14, .slice (some (Addr.mk (AW.next h385)
 0 none)) 1 1]) fun v426 h427 => vSl v426 fun p428 m429 m430 => unitAt P f_a5 2 [0, 1, 2, 3, 4, 5, 8] [.int .i64 n1, .pointer (some ⟨m2, m3, none⟩),
 .pointer (some ⟨m4, m5, none⟩), .pointer (some ⟨m6, m7, none⟩), .pointer (some ⟨m8, m9, none⟩), .pointer (some ⟨m10, m11, none⟩),
 .slice p428 m429 m430] h427 Q)))))))))) (Q (.slice p12 m13 m14) h)) : unitAt P f_a5 2 [0, 1, 2, 3, 4, 5, 8] [.int .i64 n1, .pointer (some (Addr.mk m2
 m3 none)), .pointer (some ⟨m4, m5, none⟩), .pointer (some ⟨m6, m7, none⟩), .pointer (some ⟨m8, m9, none⟩), .pointer (some (Addr.mk m10 m11
 none)), .slice p12 m13 m14] h Q := uo [(2,[0,1,2,3,4,5,8])] H (by kernel_rfl)
theorem r_ao {n1 : Int} (H : oB (AW.wrL (AW.addVar h [.string (ByteArray.mk #[]), .string (ByteArray.mk #[]), .string
 (ByteArray.mk #[]), .string (ByteArray.mk #[]), .string (ByteArray.mk #[]), .string (ByteArray.mk #[]), .string (ByteArray.mk #[]), .string (ByteArray.mk
 #[]), .string (ByteArray.mk #[]), .string (ByteArray.mk #[]), .string (ByteArray.mk #[]), .string (ByteArray.mk #[]), .string (ByteArray.mk #[])])
 (AW.next h) 0 [.string (ByteArray.mk #[]), .string (ByteArray.mk #[110, 101, 101, 100]), .string (ByteArray.mk #[99, 97, 116]), .string (ByteArray.mk #[116,
 101, 120, 116]), .string (ByteArray.mk #[117, 112, 112, 101, 114]), .string (ByteArray.mk #[115, 111, 114, 116]), .string (ByteArray.mk #[117, 110, 105, 113]),
 .string (ByteArray.mk #[99, 111, 117, 110, 116]), .string (ByteArray.mk #[119, 114, 105, 116, 101]), .string (ByteArray.mk #[102, 97, 105, 108]), .string
 (ByteArray.mk #[114, 101, 112, 101, 97, 116]), .string (ByteArray.mk #[101, 97, 99, 104]), .string (ByteArray.mk #[119, 104, 101, 110])]) fun h2 => bC (decide (n1 < 0))
 (Q (.string (ByteArray.mk #[])) h2) (bC (decide (n1 ≥ 13)) (Q (.string (ByteArray.mk #[])) h2) (oB (natIdx n1 13) fun m3 => oB (AW.rd h2 (AW.next h) (0 + m3 * 1)) fun
 v4 => vStr v4 fun s5 => Q (.string s5) h2))) : EvQ P f_ao [.int .i64 n1] h Q := fo [] H (by kernel_rfl)
end Go.Proofs.YtamoepfiodgbbaaGreatDoor.E
end

section
/- Rules of walks, printed by a program of ours: group E12. -/
namespace Go.Proofs.YtamoepfiodgbbaaGreatDoor.E
open Go.Abs
set_option maxRecDepth 100000
variable {h : AW} {Q : Value → AW → Prop}
theorem r_d0 {p1 : Option Addr} (H : oB (AW.wrL (AW.addVar (AW.addVar h [.slice none 0 0]) [.int .i64 0, .bool false,
 .slice none 0 0]) (AW.next (AW.addVar h [.slice none 0 0])) 0 [.int .i64 1, .bool false, .slice none 0 0]) fun h2 => unitAt P f_d0 5 [0, 3, 4, 5,
 6] [.pointer p1, .pointer (some ⟨(AW.next h), 0, none⟩), .pointer (some (Addr.mk (AW.next (AW.addVar h [.slice none 0 0])) 0 none)), .bool true,
 .func (Fn.func f_d5) (Array.mk []) (Array.mk [.pointer (some (Addr.mk (AW.next (AW.addVar h [.slice none 0 0])) 0 none)), .pointer (some (Addr.mk (AW.next h)
 0 none))])] h2 Q) : EvQ P f_d0 [.pointer p1] h Q := fo [(5,[0,3,4,5,6]),(23,[0,3,4,5,6,12,13]),(30,[0,3,4,5,6,7,9,10]),(35,[0,3,4,5,6,7,10]),(37,[0,3,4,5,6,9,10,14,15])] H (by kernel_rfl)
theorem r_d4 {p1 : Option Addr} {m2 m3 : Nat} {b4 : Bool} {m5 m6 : Nat} (H : EvQ P f_d8 [.pointer p1] h fun v7 h8 => vTup
 v7 fun l9 => lC l9 fun v10 l11 => vInt .u8 v10 fun n12 => lC l11 fun v13 l14 => vInt .i64 v13 fun n15 => lN l14 (bC (n15 == 0) (EvQ P f_d5 [.pointer (some
 ⟨m5, 0, none⟩), .pointer (some ⟨m6, 0, none⟩)] h8 fun v16 h17 => oB (AW.rd h17 m2 0) fun v18 => vSl v18 fun p19 m20 m21 => Q (.slice p19 m20 m21) h17) (aP
 p1 fun m22 m23 => oB (AW.rd h8 m22 (m23 + 1)) fun v24 => vInt .i64 v24 fun n25 => aP p1 fun m26 m27 => oB (AW.rd h8 m26 (m27 + 2)) fun v28 => vInt .i64 v28 fun n29
 => aP p1 fun m30 m31 => oB (AW.rd h8 m30 (m31 + 3)) fun v32 => vInt .i64 v32 fun n33 => oB (AW.wrL (AW.addVar h8 [.string (ByteArray.mk #[]), .int .i64 0,
 .int .i64 0, .bool false, .bool false]) (AW.next h8) 0 [.string (ByteArray.mk #[]), .int .i64 n29, .int .i64 n33, .bool
 false, .bool false]) fun h34 => oB (AW.rd (AW.addVar h8 [.string (ByteArray.mk #[]), .int .i64 0, .int .i64 0, .bool false, .bool
 false]) m26 (m27 + 2)) fun v35 => vInt .i64 v35 fun n36 => Value.int .i64 n36 = .int .i64 n29 ∧ oB (AW.rd (AW.addVar h8 [.string (ByteArray.mk
 #[]), .int .i64 0, .int .i64 0, .bool false, .bool false]) m30 (m31 + 3)) fun v37 => vInt .i64 v37 fun n38 => Value.int .i64 n38 =
 .int .i64 n33 ∧ EvQ P f_d6 [.pointer p1] h34 fun v39 h40 => bC (n12 == 10) (EvQ P f_d5 [.pointer (some ⟨m5, 0, none⟩), .pointer (some (Addr.mk m6
 0 none))] h40 fun v41 h42 => aP p1 fun m43 m44 => oB (AW.rd h42 m43 (m44 + 2)) fun v45 => vInt .i64 v45 fun n46 => oB (AW.wrL h42 m3 0 [.int .i64 n46,
 .bool false, .slice none 0 0]) fun h47 => unitAt P f_d0 5 [0, 3, 4, 5, 6] [.pointer p1, .pointer (some ⟨m2, 0, none⟩), .pointer (some (Addr.mk m3 0
 none)), .bool true, .func (Fn.func f_d5) (Array.mk []) (Array.mk [.pointer (some ⟨m5, 0, none⟩), .pointer (some ⟨m6, 0, none⟩)])] h47 Q) (bC (n12
 == 32) (unitAt P f_d0 5 [0, 3, 4, 5, 6] [.pointer p1, .pointer (some ⟨m2, 0, none⟩), .pointer (some ⟨m3, 0, none⟩), .bool false, .func
 (Fn.func f_d5) (Array.mk []) (Array.mk [.pointer (some ⟨m5, 0, none⟩), .pointer (some ⟨m6, 0, none⟩)])] h40 Q) (bC (n12 == 9) (bC b4 (oB (AW.wr h40 m3 1
 (.bool true)) fun h48 => unitAt P f_d0 5 [0, 3, 4, 5, 6] [.pointer p1, .pointer (some ⟨m2, 0, none⟩), .pointer (some ⟨m3, 0, none⟩), .bool
 false, .func (Fn.func f_d5) (Array.mk []) (Array.mk [.pointer (some ⟨m5, 0, none⟩), .pointer (some ⟨m6, 0, none⟩)])] h48 Q) (bC (n12 == 35) (EvQ P f_d8
 [.pointer p1] h40 fun v49 h50 => vTup v49 fun l51 => lC l51 fun v52 l53 => vInt .u8 v52 fun n54 => lC l53 fun v55 l56 => vInt .i64 v55 fun n57 => lN l56
 (unitAt P f_d0 23 [0, 3, 4, 5, 6, 12, 13] [.pointer p1, .pointer (some ⟨m2, 0, none⟩), .pointer (some ⟨m3, 0, none⟩), .bool false, .func
 (Fn.func f_d5) (Array.mk []) (Array.mk [.pointer (some ⟨m5, 0, none⟩), .pointer (some ⟨m6, 0, none⟩)]), .int .u8 n54, .int .i64 n57]
 h50 Q)) (bC (n12 == 58) (unitAt P f_d0 30 [0, 3, 4, 5, 6, 7, 9, 10] [.pointer p1, .pointer (some ⟨m2, 0, none⟩), .pointer (some ⟨m3, 0, none⟩),
 .bool false, .func (Fn.func f_d5) (Array.mk []) (Array.mk [.pointer (some ⟨m5, 0, none⟩), .pointer (some ⟨m6, 0, none⟩)]), .int .u8
 n12, .int .i64 n25, .pointer (some ⟨(AW.next h8), 0, none⟩)] h40 Q) (bC (n12 == 61) (unitAt P f_d0 30 [0, 3, 4, 5, 6, 7, 9, 10] [.pointer p1,
 .pointer (some ⟨m2, 0, none⟩), .pointer (some ⟨m3, 0, none⟩), .bool false, .func (Fn.func f_d5) (Array.mk []) (Array.mk [.pointer (some
 ⟨m5, 0, none⟩), .pointer (some ⟨m6, 0, none⟩)]), .int .u8 n12, .int .i64 n25, .pointer (some ⟨(AW.next h8), 0, none⟩)] h40 Q)
 (bC (n12 == 34) (unitAt P f_d0 30 [0, 3, 4, 5, 6, 7, 9, 10] [.pointer p1, .pointer (some ⟨m2, 0, none⟩), .pointer (some ⟨m3, 0, none⟩), .bool
 false, .func (Fn.func f_d5) (Array.mk []) (Array.mk [.pointer (some ⟨m5, 0, none⟩), .pointer (some ⟨m6, 0, none⟩)]), .int .u8 n12,
 .int .i64 n25, .pointer (some ⟨(AW.next h8), 0, none⟩)] h40 Q) (EvQ P f_c4 [.int .u8 n12] h40 fun v58 h59 => vBool v58 fun b60 => bC b60
 (unitAt P f_d0 30 [0, 3, 4, 5, 6, 7, 9, 10] [.pointer p1, .pointer (some ⟨m2, 0, none⟩), .pointer (some ⟨m3, 0, none⟩), .bool false, .func
 (Fn.func f_d5) (Array.mk []) (Array.mk [.pointer (some ⟨m5, 0, none⟩), .pointer (some ⟨m6, 0, none⟩)]), .int .u8 n12, .int .i64 n25,
 .pointer (some ⟨(AW.next h8), 0, none⟩)] h59 Q) False)))))) (bC (n12 == 35) (EvQ P f_d8 [.pointer p1] h40 fun v61 h62 => vTup v61 fun l63 => lC l63 fun v64 l65 =>
 vInt .u8 v64 fun n66 => lC l65 fun v67 l68 => vInt .i64 v67 fun n69 => lN l68 (unitAt P f_d0 23 [0, 3, 4, 5, 6, 12, 13] [.pointer p1, .pointer (some
 ⟨m2, 0, none⟩), .pointer (some ⟨m3, 0, none⟩), .bool false, .func (Fn.func f_d5) (Array.mk []) (Array.mk [.pointer (some ⟨m5, 0, none⟩),
 .pointer (some ⟨m6, 0, none⟩)]), .int .u8 n66, .int .i64 n69] h62 Q)) (bC (n12 == 58) (unitAt P f_d0 30 [0, 3, 4, 5, 6, 7, 9, 10]
 [.pointer p1, .pointer (some ⟨m2, 0, none⟩), .pointer (some ⟨m3, 0, none⟩), .bool false, .func (Fn.func f_d5) (Array.mk []) (Array.mk
 [.pointer (some ⟨m5, 0, none⟩), .pointer (some ⟨m6, 0, none⟩)]), .int .u8 n12, .int .i64 n25, .pointer (some ⟨(AW.next
 h8), 0, none⟩)] h40 Q) (bC (n12 == 61) (unitAt P f_d0 30 [0, 3, 4, 5, 6, 7, 9, 10] [.pointer p1, .pointer (some ⟨m2, 0, none⟩), .pointer (some (Addr.mk m3 0
 none)), .bool false, .func (Fn.func f_d5) (Array.mk []) (Array.mk [.pointer (some ⟨m5, 0, none⟩), .pointer (some ⟨m6, 0, none⟩)]), .int
 .u8 n12, .int .i64 n25, .pointer (some ⟨(AW.next h8), 0, none⟩)] h40 Q) (bC (n12 == 34) (unitAt P f_d0 30 [0, 3, 4, 5, 6, 7, 9, 10] [.pointer
 p1, .pointer (some ⟨m2, 0, none⟩), .pointer (some ⟨m3, 0, none⟩), .bool false, .func (Fn.func f_d5) (Array.mk []) (Array.mk [.pointer (some
 ⟨m5, 0, none⟩), .pointer (some ⟨m6, 0, none⟩)]), .int .u8 n12, .int .i64 n25, .pointer (some ⟨(AW.next h8), 0, none⟩)] h40 Q)
 (EvQ P f_c4 [.int .u8 n12] h40 fun v70 h71 => vBool v70 fun b72 => bC b72 (unitAt P f_d0 30 [0, 3, 4, 5, 6, 7, 9, 10] [.pointer p1, .pointer (some (Addr.mk
 m2 0 none)), .pointer (some ⟨m3, 0, none⟩), .bool false, .func (Fn.func f_d5) (Array.mk []) (Array.mk [.pointer (some ⟨m5, 0, none⟩),
 .pointer (some ⟨m6, 0, none⟩)]), .int .u8 n12, .int .i64 n25, .pointer (some ⟨(AW.next h8), 0, none⟩)] h71 Q) False)))))))))) :
 unitAt P f_d0 5 [0, 3, 4, 5, 6] [.pointer p1, .pointer (some ⟨m2, 0, none⟩), .pointer (some ⟨m3, 0, none⟩), .bool b4, .func (Fn.func f_d5)
 (Array.mk []) (Array.mk [.pointer (some ⟨m5, 0, none⟩), .pointer (some ⟨m6, 0, none⟩)])] h Q := uo [(5,[0,3,4,5,6]),(23,[0,3,4,5,6,12,13]),(30,[0,3,4,5,6,7,9,10]),(35,[0,3,4,5,6,7,10]),(37,[0,3,4,5,6,9,10,14,15])] H (by kernel_rfl)
theorem r_d1 {p1 : Option Addr} {m2 m3 : Nat} {b4 : Bool} {m5 m6 : Nat} {n7 n8 : Int} {m9 : Nat} (H : bC (n7 == 34)
 (EvQ P f_d9 [.pointer p1, .int .i64 n8] h fun v10 h11 => vStr v10 fun s12 => oB (AW.wr h11 m9 0 (.string s12)) fun h13 => oB (AW.wr h13 m9 3 (.bool
 true)) fun h14 => oB (AW.rd h14 m3 2) fun v15 => vSl v15 fun p16 m17 m18 => oB (AW.rd h14 m9 0) fun v19 => vStr v19 fun s20 => oB (AW.rd h14 m9 1) fun v21 => vInt .i64 v21
 fun n22 => oB (AW.rd h14 m9 2) fun v23 => vInt .i64 v23 fun n24 => oB (AW.rd h14 m9 3) fun v25 => vBool v25 fun b26 => oB (AW.rd h14 m9 4) fun v27 => vBool v27 fun b28 =>
 oP (appendB P (AW.addVar h14 [.string s20, .int .i64 n22, .int .i64 n24, .bool b26, .bool b28]) (Array.mk [ty_sl_api_Word, ty_sl_api_Word]) [.slice p16
 m17 m18, .slice (some ⟨(AW.next h14), 0, none⟩) 1 1]) fun v29 h30 => vSl v29 fun p31 m32 m33 => oB (AW.wr h30 m3 2 (.slice p31 m32 m33)) fun h34 => unitAt P f_d0
 5 [0, 3, 4, 5, 6] [.pointer p1, .pointer (some ⟨m2, 0, none⟩), .pointer (some ⟨m3, 0, none⟩), .bool b4, .func (Fn.func f_d5) (Array.mk [])
 (Array.mk [.pointer (some ⟨m5, 0, none⟩), .pointer (some ⟨m6, 0, none⟩)])] h34 Q) (bC (n7 == 58) (unitAt P f_d0 35 [0, 3, 4, 5, 6, 7, 10] [.pointer p1,
 .pointer (some ⟨m2, 0, none⟩), .pointer (some ⟨m3, 0, none⟩), .bool b4, .func (Fn.func f_d5) (Array.mk []) (Array.mk [.pointer (some (Addr.mk
 m5 0 none)), .pointer (some ⟨m6, 0, none⟩)]), .int .u8 n7, .pointer (some ⟨m9, 0, none⟩)] h Q) (bC (n7 == 61) (unitAt P f_d0 35 [0, 3, 4, 5, 6,
 7, 10] [.pointer p1, .pointer (some ⟨m2, 0, none⟩), .pointer (some ⟨m3, 0, none⟩), .bool b4, .func (Fn.func f_d5) (Array.mk []) (Array.mk
 [.pointer (some ⟨m5, 0, none⟩), .pointer (some ⟨m6, 0, none⟩)]), .int .u8 n7, .pointer (some ⟨m9, 0, none⟩)] h Q) (EvQ P f_d8
 [.pointer p1] h fun v35 h36 => vTup v35 fun l37 => lC l37 fun v38 l39 => vInt .u8 v38 fun n40 => lC l39 fun v41 l42 => vInt .i64 v41 fun n43 => lN l42 (unitAt
 P f_d0 37 [0, 3, 4, 5, 6, 9, 10, 14, 15] [.pointer p1, .pointer (some ⟨m2, 0, none⟩), .pointer (some ⟨m3, 0, none⟩), .bool b4, .func (Fn.func
 f_d5) (Array.mk []) (Array.mk [.pointer (some ⟨m5, 0, none⟩), .pointer (some ⟨m6, 0, none⟩)]), .int .i64 n8, .pointer (some (Addr.mk m9 0
 none)), .int .u8 n40, .int .i64 n43] h36 Q))))) : unitAt P f_d0 30 [0, 3, 4, 5, 6, 7, 9, 10] [.pointer p1, .pointer (some ⟨m2, 0, none⟩),
 .pointer (some ⟨m3, 0, none⟩), .bool b4, .func (Fn.func f_d5) (Array.mk []) (Array.mk [.pointer (some ⟨m5, 0, none⟩), .pointer (some (Addr.mk
 m6 0 none))]), .int .u8 n7, .int .i64 n8, .pointer (some ⟨m9, 0, none⟩)] h Q := uo [(5,[0,3,4,5,6]),(23,[0,3,4,5,6,12,13]),(30,[0,3,4,5,6,7,9,10]),(35,[0,3,4,5,6,7,10]),(37,[0,3,4,5,6,9,10,14,15])] H (by kernel_rfl)
theorem r_d2 {p1 : Option Addr} {m2 m3 : Nat} {b4 : Bool} {m5 m6 : Nat} {n7 : Int} {m8 : Nat} (H : oB (AW.wr h m8 0
 (.string (Utf8.encode n7))) fun h9 => oB (AW.wr h9 m8 4 (.bool true)) fun h10 => oB (AW.rd h10 m3 2) fun v11 => vSl v11 fun p12 m13 m14 => oB (AW.rd h10 m8 0) fun v15
 => vStr v15 fun s16 => oB (AW.rd h10 m8 1) fun v17 => vInt .i64 v17 fun n18 => oB (AW.rd h10 m8 2) fun v19 => vInt .i64 v19 fun n20 => oB (AW.rd h10 m8 3) fun v21
 => vBool v21 fun b22 => oB (AW.rd h10 m8 4) fun v23 => vBool v23 fun b24 => oP (appendB P (AW.addVar h10 [.string s16, .int .i64 n18, .int .i64 n20,
 .bool b22, .bool b24]) (Array.mk [ty_sl_api_Word, ty_sl_api_Word]) [.slice p12 m13 m14, .slice (some ⟨(AW.next h10), 0, none⟩) 1 1]) fun v25 h26 => vSl v25 fun p27 m28
 m29 => oB (AW.wr h26 m3 2 (.slice p27 m28 m29)) fun h30 => unitAt P f_d0 5 [0, 3, 4, 5, 6] [.pointer p1, .pointer (some ⟨m2, 0, none⟩), .pointer (some
 ⟨m3, 0, none⟩), .bool b4, .func (Fn.func f_d5) (Array.mk []) (Array.mk [.pointer (some ⟨m5, 0, none⟩), .pointer (some ⟨m6, 0, none⟩)])] h30
 Q) : unitAt P f_d0 35 [0, 3, 4, 5, 6, 7, 10] [.pointer p1, .pointer (some ⟨m2, 0, none⟩), .pointer (some ⟨m3, 0, none⟩), .bool b4, .func
 (Fn.func f_d5) (Array.mk []) (Array.mk [.pointer (some ⟨m5, 0, none⟩), .pointer (some ⟨m6, 0, none⟩)]), .int .u8 n7, .pointer (some
 ⟨m8, 0, none⟩)] h Q := uo [(5,[0,3,4,5,6]),(23,[0,3,4,5,6,12,13]),(30,[0,3,4,5,6,7,9,10]),(35,[0,3,4,5,6,7,10]),(37,[0,3,4,5,6,9,10,14,15])] H (by kernel_rfl)
theorem r_d3 {p1 : Option Addr} {m2 m3 : Nat} {b4 : Bool} {m5 m6 : Nat} {n7 : Int} {m8 : Nat} {n9 n10 : Int} (H : bC
 (n10 == 1) (EvQ P f_c4 [.int .u8 n9] h fun v11 h12 => vBool v11 fun b13 => bC b13 (EvQ P f_d6 [.pointer p1] h12 fun v14 h15 => EvQ P f_d8 [.pointer p1] h15
 fun v16 h17 => vTup v16 fun l18 => lC l18 fun v19 l20 => vInt .u8 v19 fun n21 => lC l20 fun v22 l23 => vInt .i64 v22 fun n24 => lN l23 (unitAt P f_d0 37 [0, 3, 4,
 5, 6, 9, 10, 14, 15] [.pointer p1, .pointer (some ⟨m2, 0, none⟩), .pointer (some ⟨m3, 0, none⟩), .bool b4, .func (Fn.func f_d5) (Array.mk [])
 (Array.mk [.pointer (some ⟨m5, 0, none⟩), .pointer (some ⟨m6, 0, none⟩)]), .int .i64 n7, .pointer (some ⟨m8, 0, none⟩), .int
 .u8 n21, .int .i64 n24] h17 Q)) (aP p1 fun m25 m26 => oB (AW.rd h12 m25 m26) fun v27 => vStr v27 fun s28 => aP p1 fun m29 m30 => oB (AW.rd h12 m29 (m30 + 1))
 fun v31 => vInt .i64 v31 fun n32 => oB (natBnd n32 (ByteArray.size s28)) fun m33 => oB (natBnd n7 m33) fun m34 => oB (AW.wr h12 m8 0 (.string (bSub s28 m34 m33))) fun
 h35 => oB (AW.rd h35 m3 2) fun v36 => vSl v36 fun p37 m38 m39 => oB (AW.rd h35 m8 0) fun v40 => vStr v40 fun s41 => oB (AW.rd h35 m8 1) fun v42 => vInt .i64 v42 fun n43 =>
 oB (AW.rd h35 m8 2) fun v44 => vInt .i64 v44 fun n45 => oB (AW.rd h35 m8 3) fun v46 => vBool v46 fun b47 => oB (AW.rd h35 m8 4) fun v48 => vBool v48 fun b49 => oP (appendB
 P (AW.addVar h35 [.string s41, .int .i64 n43, .int .i64 n45, .bool b47, .bool b49]) (Array.mk [ty_sl_api_Word, ty_sl_api_Word]) [.slice p37 m38 m39,
 .slice (some ⟨(AW.next h35), 0, none⟩) 1 1]) fun v50 h51 => vSl v50 fun p52 m53 m54 => oB (AW.wr h51 m3 2 (.slice p52 m53 m54)) fun h55 => unitAt P f_d0 5 [0, 3,
 4, 5, 6] [.pointer p1, .pointer (some ⟨m2, 0, none⟩), .pointer (some ⟨m3, 0, none⟩), .bool b4, .func (Fn.func f_d5) (Array.mk []) (Array.mk
 [.pointer (some ⟨m5, 0, none⟩), .pointer (some ⟨m6, 0, none⟩)])] h55 Q)) (aP p1 fun m56 m57 => oB (AW.rd h m56 m57) fun v58 => vStr v58 fun s59 => aP p1 fun
 m60 m61 => oB (AW.rd h m60 (m61 + 1)) fun v62 => vInt .i64 v62 fun n63 => oB (natBnd n63 (ByteArray.size s59)) fun m64 => oB (natBnd n7 m64) fun m65 => oB (AW.wr h m8 0
 (.string (bSub s59 m65 m64))) fun h66 => oB (AW.rd h66 m3 2) fun v67 => vSl v67 fun p68 m69 m70 => oB (AW.rd h66 m8 0) fun v71 => vStr v71 fun s72 => oB (AW.rd h66 m8 1) fun
 v73 => vInt .i64 v73 fun n74 => oB (AW.rd h66 m8 2) fun v75 => vInt .i64 v75 fun n76 => oB (AW.rd h66 m8 3) fun v77 => vBool v77 fun b78 => oB (AW.rd h66 m8 4) fun
 v79 => vBool v79 fun b80 => oP (appendB P (AW.addVar h66 [.string s72, .int .i64 n74, .int .i64 n76, .bool b78, .bool b80]) (Array.mk
 [ty_sl_api_Word, ty_sl_api_Word]) [.slice p68 m69 m70, .slice (some ⟨(AW.next h66), 0, none⟩) 1 1]) fun v81 h82 => vSl v81 fun p83 m84 m85 => oB (AW.wr h82 m3 2 (.slice p83
 m84 m85)) fun h86 => unitAt P f_d0 5 [0, 3, 4, 5, 6] [.pointer p1, .pointer (some ⟨m2, 0, none⟩), .pointer (some ⟨m3, 0, none⟩), .bool b4,
 .func (Fn.func f_d5) (Array.mk []) (Array.mk [.pointer (some ⟨m5, 0, none⟩), .pointer (some ⟨m6, 0, none⟩)])] h86 Q)) : unitAt P f_d0 37 [0, 3, 4, 5,
 6, 9, 10, 14, 15] [.pointer p1, .pointer (some ⟨m2, 0, none⟩), .pointer (some ⟨m3, 0, none⟩), .bool b4, .func (Fn.func f_d5) (Array.mk [])
 (Array.mk [.pointer (some ⟨m5, 0, none⟩), .pointer (some ⟨m6, 0, none⟩)]), .int .i64 n7, .pointer (some ⟨m8, 0, none⟩), .int
 .u8 n9, .int .i64 n10] h Q := uo [(5,[0,3,4,5,6]),(23,[0,3,4,5,6,12,13]),(30,[0,3,4,5,6,7,9,10]),(35,[0,3,4,5,6,7,10]),(37,[0,3,4,5,6,9,10,14,15])] H (by kernel_rfl)
theorem r_bu {p1 : Option Addr} {m2 m3 : Nat} (H : unitAt P f_bu 3 [3, 6, 7, 8] [.slice none 0 0, .slice p1 m2 m3, .int
 .i64 (↑m2 : Int), .int .i64 0] h Q) : EvQ P f_bu [.slice p1 m2 m3] h Q := fo [(3,[3,6,7,8])] H (by kernel_rfl)
theorem r_bv {p1 : Option Addr} {m2 m3 : Nat} {p4 : Option Addr} {m5 m6 : Nat} {n7 n8 : Int} (H : bC (decide (n8 < n7))
 (aP p4 fun m9 m10 => oB (natIdx n8 m5) fun m11 => oB (AW.rd h m9 (m10 + m11 * 6)) fun v12 => vStr v12 fun s13 => oB (AW.rd h m9 (m10 + m11 * 6 + 1)) fun v14 => vStr v14 fun s15
 => oB (AW.rd h m9 (m10 + m11 * 6 + 1 + 1)) fun v16 => vInt .i64 v16 fun n17 => oB (AW.rd h m9 (m10 + m11 * 6 + 1 + 1 + 1)) fun v18 => vInt .i64 v18 fun n19 => oB
 (AW.rd h m9 (m10 + m11 * 6 + 1 + 1 + 1 + 1)) fun v20 => vBool v20 fun b21 => oB (AW.rd h m9 (m10 + m11 * 6 + 1 + 1 + 1 + 1 + 1)) fun v22 => vBool v22 fun b23 => oB (AW.wrL
 (AW.addVar h [.string (ByteArray.mk #[]), .string (ByteArray.mk #[]), .int .i64 0, .int .i64 0, .bool false, .bool false]) (AW.next h)
 0 [.string s13, .string s15, .int .i64 n17, .int .i64 n19, .bool b21, .bool b23]) fun h24 => oB (AW.rd h24 (AW.next h) 0) fun v25 =>
 vStr v25 fun s26 => oP (appendB P (AW.addVar h24 [.string s26]) (Array.mk [ty_sl_string, ty_sl_string]) [.slice p1 m2 m3, .slice (some ⟨(AW.next h24), 0, none⟩) 1 1]) fun
 v27 h28 => vSl v27 fun p29 m30 m31 => unitAt P f_bu 3 [3, 6, 7, 8] [.slice p29 m30 m31, .slice p4 m5 m6, .int .i64 n7, .int .i64 (IntKind.wrap
 .i64 (n8 + 1))] h28 Q) (Q (.slice p1 m2 m3) h)) : unitAt P f_bu 3 [3, 6, 7, 8] [.slice p1 m2 m3, .slice p4 m5 m6, .int .i64 n7, .int
 .i64 n8] h Q := uo [(3,[3,6,7,8])] H (by kernel_rfl)
theorem r_bo {p1 : Option Addr} {m2 m3 : Nat} (H : EvQ P f_e4 [.slice p1 m2 m3] h fun v4 h5 => vSl v4 fun p6 m7 m8 => unitAt P f_bo
 3 [3, 8, 9] [.slice p6 m7 m8, .int .i64 (↑m7 : Int), .int .i64 0] h5 Q) : EvQ P f_bo [.slice p1 m2 m3] h Q := fo [(3,[3,8,9])] H (by kernel_rfl)
theorem r_bp {p1 : Option Addr} {m2 m3 : Nat} {n4 n5 : Int} (H : bC (decide (n5 < n4)) (aP p1 fun m6 m7 => oB (natIdx n5 m2)
 fun m8 => oB (AW.rd h m6 (m7 + m8 * 4 + 1)) fun v9 => vSl v9 fun p10 m11 m12 => EvQ P f_e6 [.slice p10 m11 m12] h fun v13 h14 => vSl v13 fun p15 m16 m17 => aP p1 fun m18 m19
 => oB (natIdx n5 m2) fun m20 => oB (AW.rd h14 m18 (m19 + m20 * 4 + 3)) fun v21 => vSl v21 fun p22 m23 m24 => EvQ P f_bo [.slice p22 m23 m24] h14 fun v25 h26 => vSl v25 fun
 p27 m28 m29 => aP p1 fun m30 m31 => oB (natIdx n5 m2) fun m32 => oB (AW.wr h26 m30 (m31 + m32 * 4 + 1) (.slice p15 m16 m17)) fun h33 => aP p1 fun m34 m35 => oB (natIdx n5
 m2) fun m36 => oB (AW.wr h33 m34 (m35 + m36 * 4 + 3) (.slice p27 m28 m29)) fun h37 => oB (AW.rd h m18 (m19 + m20 * 4 + 3)) fun v38 => vSl v38 fun p39 m40 m41 => Value.slice
 p39 m40 m41 = .slice p22 m23 m24 ∧ unitAt P f_bo 3 [3, 8, 9] [.slice p1 m2 m3, .int .i64 n4, .int .i64 (IntKind.wrap .i64 (n5 + 1))] h37
 Q) (Q (.slice p1 m2 m3) h)) : unitAt P f_bo 3 [3, 8, 9] [.slice p1 m2 m3, .int .i64 n4, .int .i64 n5] h Q := uo [(3,[3,8,9])] H (by kernel_rfl)
theorem r_f2 {s1 s2 : ByteArray} (H : EvQ P f_f8 [.string s1, .string s2] h fun v3 h4 => vInt .i64 v3 fun n5 =>
 Q (.bool (decide (n5 ≥ 0))) h4) : EvQ P f_f2 [.string s1, .string s2] h Q := fo [] H (by kernel_rfl)
theorem r_am {p1 : Option Addr} {m2 m3 : Nat} (H : bC ((↑m2 : Int) == 0) (oB (AW.wrL (AW.addVar h [.int .i64 0, .slice
 none 0 0, .int .i64 0, .slice none 0 0]) (AW.next h) 0 [.int .i64 0, .slice none 0 0, .int .i64 0, .slice none 0 0]) fun h4 =>
 oB (AW.rd h4 (AW.next h) 0) fun v5 => vInt .i64 v5 fun n6 => oB (AW.rd h4 (AW.next h) 1) fun v7 => vSl v7 fun p8 m9 m10 => oB (AW.rd h4 (AW.next h) 2) fun v11 => vInt
 .i64 v11 fun n12 => oB (AW.rd h4 (AW.next h) 3) fun v13 => vSl v13 fun p14 m15 m16 => Q (.tuple (Array.mk [.agg (Array.mk [.int .i64 n6, .slice
 p8 m9 m10, .int .i64 n12, .slice p14 m15 m16]), .bool false])) h4) (oB (AW.wrL (AW.addVar (AW.addVar h [.int .i64 0, .slice none 0 0,
 .int .i64 0, .slice none 0 0]) [.int .i64 0, .slice none 0 0, .int .i64 0, .slice none 0 0]) (AW.next (AW.addVar h [.int
 .i64 0, .slice none 0 0, .int .i64 0, .slice none 0 0])) 0 [.int .i64 0, .slice none 0 0, .int .i64 0, .slice none
 0 0]) fun h17 => unitAt P f_am 5 [0, 2, 4, 5] [.slice p1 m2 m3, .pointer (some ⟨(AW.next h), 0, none⟩), .pointer (some (Addr.mk (AW.next (AW.addVar h
 [.int .i64 0, .slice none 0 0, .int .i64 0, .slice none 0 0])) 0 none)), .int .i64 1] h17 Q)) : EvQ P f_am [.slice p1 m2 m3] h
 Q := fo [(5,[0,2,4,5])] H (by kernel_rfl)
theorem r_an {p1 : Option Addr} {m2 m3 : Nat} {m4 m5 : Nat} {n6 : Int} (H : bC (decide (n6 ≤ 12)) (EvQ P f_ao [.int
 .i64 n6] h fun v7 h8 => vStr v7 fun s9 => aP p1 fun m10 m11 => oB (natIdx 0 m2) fun m12 => oB (AW.rd h8 m10 (m11 + m12 * 1)) fun v13 => vStr v13 fun s14 => oB (AW.rd h m10
 (m11 + m12 * 1)) fun v15 => vStr v15 fun s16 => Value.string s16 = .string s14 ∧ bC (bEq s9 s14) (oB (AW.wr h8 m5 0 (.int .i64 n6)) fun h17 => unitAt P f_am 5
 [0, 2, 4, 5] [.slice p1 m2 m3, .pointer (some ⟨m4, 0, none⟩), .pointer (some ⟨m5, 0, none⟩), .int .i64 (IntKind.wrap .i64 (n6 + 1))]
 h17 Q) (unitAt P f_am 5 [0, 2, 4, 5] [.slice p1 m2 m3, .pointer (some ⟨m4, 0, none⟩), .pointer (some ⟨m5, 0, none⟩), .int .i64
 (IntKind.wrap .i64 (n6 + 1))] h8 Q)) (oB (natBnd 1 m2) fun m18 => bC (Nat.ble m2 m3) (oB (shO p1 (m18 * 1)) fun p19 => oB (AW.rd h m5 0) fun v20 => vInt .i64 v20
 fun n21 => bC (n21 == 10) (bC ((↑(m2 - m18) : Int) != 1) (oB (AW.wrL h m4 0 [.int .i64 0, .slice none 0 0, .int .i64 0, .slice none 0 0]) fun
 h22 => oB (AW.rd h22 m4 0) fun v23 => vInt .i64 v23 fun n24 => oB (AW.rd h22 m4 1) fun v25 => vSl v25 fun p26 m27 m28 => oB (AW.rd h22 m4 2) fun v29 => vInt .i64
 v29 fun n30 => oB (AW.rd h22 m4 3) fun v31 => vSl v31 fun p32 m33 m34 => Q (.tuple (Array.mk [.agg (Array.mk [.int .i64 n24, .slice p26 m27 m28,
 .int .i64 n30, .slice p32 m33 m34]), .bool false])) h22) (aP p19 fun m35 m36 => oB (natIdx 0 (m2 - m18)) fun m37 => oB (AW.rd h m35 (m36 + m37 * 1)) fun v38
 => vStr v38 fun s39 => EvQ P f_ai [.string s39] h fun v40 h41 => vInt .i64 v40 fun n42 => oB (AW.wr h41 m5 2 (.int .i64 n42)) fun h43 => oB (AW.rd h43 m5
 0) fun v44 => vInt .i64 v44 fun n45 => oB (AW.rd h43 m5 1) fun v46 => vSl v46 fun p47 m48 m49 => oB (AW.rd h43 m5 2) fun v50 => vInt .i64 v50 fun n51 => oB (AW.rd
 h43 m5 3) fun v52 => vSl v52 fun p53 m54 m55 => oB (AW.rd h43 m5 2) fun v56 => vInt .i64 v56 fun n57 => oB (AW.wrL h43 m4 0 [.int .i64 n45, .slice p47 m48
 m49, .int .i64 n51, .slice p53 m54 m55]) fun h58 => oB (AW.rd h58 m5 2) fun v59 => vInt .i64 v59 fun n60 => Value.int .i64 n60 = .int
 .i64 n57 ∧ oB (AW.rd h58 m4 0) fun v61 => vInt .i64 v61 fun n62 => oB (AW.rd h58 m4 1) fun v63 => vSl v63 fun p64 m65 m66 => oB (AW.rd h58 m4 2) fun v67 => vInt
 .i64 v67 fun n68 => oB (AW.rd h58 m4 3) fun v69 => vSl v69 fun p70 m71 m72 => Q (.tuple (Array.mk [.agg (Array.mk [.int .i64 n62, .slice p64 m65
 m66, .int .i64 n68, .slice p70 m71 m72]), .bool (decide (n57 ≥ 0))])) h58)) (EvQ P f_e6 [.slice p19 (m2 - m18) (m3 - m18)] h fun v73 h74 => vSl v73 fun
 p75 m76 m77 => oB (AW.wr h74 m5 1 (.slice p75 m76 m77)) fun h78 => oB (AW.rd h78 m5 0) fun v79 => vInt .i64 v79 fun n80 => oB (AW.rd h78 m5 1) fun v81 => vSl v81 fun
 p82 m83 m84 => oB (AW.rd h78 m5 2) fun v85 => vInt .i64 v85 fun n86 => oB (AW.rd h78 m5 3) fun v87 => vSl v87 fun p88 m89 m90 => oB (AW.rd h78 m5 0) fun v91 => vInt
 .i64 v91 fun n92 => bC (decide (n92 > 0)) (oB (AW.rd h78 m5 0) fun v93 => vInt .i64 v93 fun n94 => EvQ P f_ad [.int .i64 n94, .int .i64
 (↑(m2 - m18) : Int)] h78 fun v95 h96 => vBool v95 fun b97 => oB (AW.wrL h96 m4 0 [.int .i64 n80, .slice p82 m83 m84, .int .i64 n86, .slice p88
 m89 m90]) fun h98 => oB (AW.rd h96 m5 0) fun v99 => vInt .i64 v99 fun n100 => oB (AW.rd h96 m5 1) fun v101 => vSl v101 fun p102 m103 m104 => oB (AW.rd h96 m5 2) fun v105
 => vInt .i64 v105 fun n106 => oB (AW.rd h96 m5 3) fun v107 => vSl v107 fun p108 m109 m110 => Value.agg (Array.mk [.int .i64 n100, .slice p102 m103 m104,
 .int .i64 n106, .slice p108 m109 m110]) = .agg (Array.mk [.int .i64 n80, .slice p82 m83 m84, .int .i64 n86, .slice p88 m89
 m90]) ∧ oB (AW.rd h98 m4 0) fun v111 => vInt .i64 v111 fun n112 => oB (AW.rd h98 m4 1) fun v113 => vSl v113 fun p114 m115 m116 => oB (AW.rd h98 m4 2) fun v117 => vInt
 .i64 v117 fun n118 => oB (AW.rd h98 m4 3) fun v119 => vSl v119 fun p120 m121 m122 => Q (.tuple (Array.mk [.agg (Array.mk [.int .i64 n112, .slice
 p114 m115 m116, .int .i64 n118, .slice p120 m121 m122]), .bool b97])) h98) (oB (AW.wrL h78 m4 0 [.int .i64 n80, .slice p82 m83 m84,
 .int .i64 n86, .slice p88 m89 m90]) fun h123 => oB (AW.rd h123 m4 0) fun v124 => vInt .i64 v124 fun n125 => oB (AW.rd h123 m4 1) fun v126 => vSl v126 fun
 p127 m128 m129 => oB (AW.rd h123 m4 2) fun v130 => vInt .i64 v130 fun n131 => oB (AW.rd h123 m4 3) fun v132 => vSl v132 fun p133 m134 m135 => Q (.tuple (Array.mk
 [.agg (Array.mk [.int .i64 n125, .slice p127 m128 m129, .int .i64 n131, .slice p133 m134 m135]), .bool false])) h123))) False)) :
 unitAt P f_am 5 [0, 2, 4, 5] [.slice p1 m2 m3, .pointer (some ⟨m4, 0, none⟩), .pointer (some ⟨m5, 0, none⟩), .int .i64 n6] h Q := uo [(5,[0,2,4,5])] H (by kernel_rfl)
end Go.Proofs.YtamoepfiodgbbaaGreatDoor.E
end

section
/- Rules of walks, printed by a program of ours: group E13. -/
namespace Go.Proofs.YtamoepfiodgbbaaGreatDoor.E
open Go.Abs
set_option maxRecDepth 100000
variable {h : AW} {Q : Value → AW → Prop}
theorem r_bj {s1 : ByteArray} {p2 : Option Addr} {m3 m4 : Nat} {p5 : Option Addr} {m6 m7 : Nat} {p8 : Option Addr} {m9 m10 : Nat} (H : oB (AW.rd (AW.addVar (AW.addVar h [.string s1, .slice p2 m3 m4, .slice p5 m6 m7, .slice p8 m9 m10]) [.string (ByteArray.mk #[114, 117, 108,
 101])]) (AW.next h) 1) fun v11 => vSl v11 fun p12 m13 m14 => unitAt P f_bj 3 [1, 3, 15, 16, 17] [.pointer (some ⟨(AW.next h), 0, none⟩), .slice (some (Addr.mk
 (AW.next (AW.addVar h [.string s1, .slice p2 m3 m4, .slice p5 m6 m7, .slice p8 m9 m10])) 0 none)) 1 1, .slice p12 m13 m14, .int .i64 (↑m13 :
 Int), .int .i64 0] (AW.addVar (AW.addVar h [.string s1, .slice p2 m3 m4, .slice p5 m6 m7, .slice p8 m9 m10]) [.string (ByteArray.mk #[114,
 117, 108, 101])]) Q) : EvQ P f_bj [.agg (Array.mk [.string s1, .slice p2 m3 m4, .slice p5 m6 m7, .slice p8 m9 m10])] h Q := fo [(3,[1,3,15,16,17]),(9,[1,3,31,32,33]),(18,[8,56,57,58])] H (by kernel_rfl)
theorem r_bl {m1 : Nat} {p2 : Option Addr} {m3 m4 : Nat} {p5 : Option Addr} {m6 m7 : Nat} {n8 n9 : Int} (H : bC (decide
 (n9 < n8)) (aP p5 fun m10 m11 => oB (natIdx n9 m6) fun m12 => oB (AW.rd h m10 (m11 + m12 * 1)) fun v13 => vStr v13 fun s14 => EvQ P f_c3 [.string s14] h fun v15 h16 => vStr
 v15 fun s17 => oP (appendB P (AW.addVar h16 [.string s17]) (Array.mk [ty_sl_string, ty_sl_string]) [.slice p2 m3 m4, .slice (some ⟨(AW.next h16), 0, none⟩) 1 1]) fun v18
 h19 => vSl v18 fun p20 m21 m22 => unitAt P f_bj 3 [1, 3, 15, 16, 17] [.pointer (some ⟨m1, 0, none⟩), .slice p20 m21 m22, .slice p5 m6 m7, .int
 .i64 n8, .int .i64 (IntKind.wrap .i64 (n9 + 1))] h19 Q) (oP (appendB P (AW.addVar h [.string (ByteArray.mk #[58])]) (Array.mk [ty_sl_string, ty_sl_string])
 [.slice p2 m3 m4, .slice (some ⟨(AW.next h), 0, none⟩) 1 1]) fun v23 h24 => vSl v23 fun p25 m26 m27 => oB (AW.rd h24 m1 2) fun v28 => vSl v28 fun p29 m30 m31 =>
 unitAt P f_bj 9 [1, 3, 31, 32, 33] [.pointer (some ⟨m1, 0, none⟩), .slice p25 m26 m27, .slice p29 m30 m31, .int .i64 (↑m30 : Int), .int
 .i64 0] h24 Q)) : unitAt P f_bj 3 [1, 3, 15, 16, 17] [.pointer (some ⟨m1, 0, none⟩), .slice p2 m3 m4, .slice p5 m6 m7, .int .i64 n8,
 .int .i64 n9] h Q := uo [(3,[1,3,15,16,17]),(9,[1,3,31,32,33]),(18,[8,56,57,58])] H (by kernel_rfl)
theorem r_bm {m1 : Nat} {p2 : Option Addr} {m3 m4 : Nat} {p5 : Option Addr} {m6 m7 : Nat} {n8 n9 : Int} (H : bC (decide
 (n9 < n8)) (aP p5 fun m10 m11 => oB (natIdx n9 m6) fun m12 => oB (AW.rd h m10 (m11 + m12 * 1)) fun v13 => vStr v13 fun s14 => EvQ P f_c3 [.string s14] h fun v15 h16 => vStr
 v15 fun s17 => oP (appendB P (AW.addVar h16 [.string s17]) (Array.mk [ty_sl_string, ty_sl_string]) [.slice p2 m3 m4, .slice (some ⟨(AW.next h16), 0, none⟩) 1 1]) fun v18
 h19 => vSl v18 fun p20 m21 m22 => unitAt P f_bj 9 [1, 3, 31, 32, 33] [.pointer (some ⟨m1, 0, none⟩), .slice p20 m21 m22, .slice p5 m6 m7, .int
 .i64 n8, .int .i64 (IntKind.wrap .i64 (n9 + 1))] h19 Q) (EvQ P f_fa [.slice p2 m3 m4, .string (ByteArray.mk #[32])] h fun v23 h24 => vStr v23
 fun s25 => bC (Nat.ble (ByteArray.size s25 + 1) 9223372036854775807) (oB (AW.rd h24 m1 3) fun v26 => vSl v26 fun p27 m28 m29 => EvQ P f_a7 [.slice p27 m28 m29] h24 fun v30
 h31 => vTup v30 fun l32 => lC l32 fun v33 l34 => vStr v33 fun s35 => lC l34 fun v36 l37 => vInt .i64 v36 fun n38 => lN l37 (bC (n38 != 0) (Q (.string (s25 ++
 ByteArray.mk #[10])) h31) (EvQ P f_fk [.string s35, .string (ByteArray.mk #[10])] h31 fun v39 h40 => vSl v39 fun p41 m42 m43 => unitAt P f_bj 18 [8, 56, 57, 58]
 [.string (s25 ++ ByteArray.mk #[10]), .slice p41 m42 m43, .int .i64 (↑m42 : Int), .int .i64 0] h40 Q))) False)) : unitAt P f_bj 9 [1, 3, 31, 32,
 33] [.pointer (some ⟨m1, 0, none⟩), .slice p2 m3 m4, .slice p5 m6 m7, .int .i64 n8, .int .i64 n9] h Q := uo [(3,[1,3,15,16,17]),(9,[1,3,31,32,33]),(18,[8,56,57,58])] H (by kernel_rfl)
theorem r_bk {s1 : ByteArray} {p2 : Option Addr} {m3 m4 : Nat} {n5 n6 : Int} (H : bC (decide (n6 < n5)) (aP p2 fun m7 m8 => oB
 (natIdx n6 m3) fun m9 => oB (AW.rd h m7 (m8 + m9 * 1)) fun v10 => vStr v10 fun s11 => bC (!bEq s11 (ByteArray.mk #[])) (bC (Nat.ble (1 + ByteArray.size s11) 9223372036854775807)
 (bC (Nat.ble (ByteArray.size s1 + ByteArray.size (ByteArray.mk #[9] ++ s11)) 9223372036854775807) (unitAt P f_bj 18 [8, 56, 57, 58] [.string (s1 ++ (ByteArray.mk #[9] ++
 s11)), .slice p2 m3 m4, .int .i64 n5, .int .i64 (IntKind.wrap .i64 (n6 + 1))] h Q) False) False) (unitAt P f_bj 18 [8, 56, 57, 58]
 [.string s1, .slice p2 m3 m4, .int .i64 n5, .int .i64 (IntKind.wrap .i64 (n6 + 1))] h Q)) (Q (.string s1) h)) : unitAt P f_bj 18 [8,
 56, 57, 58] [.string s1, .slice p2 m3 m4, .int .i64 n5, .int .i64 n6] h Q := uo [(3,[1,3,15,16,17]),(9,[1,3,31,32,33]),(18,[8,56,57,58])] H (by kernel_rfl)
theorem r_e6 {p1 : Option Addr} {m2 m3 : Nat} (H : bC (Option.isNone p1) (Q (.slice none 0 0) h) (oP (appendB P (AW.addVar h [])
 (Array.mk [ty_sl_string, ty_sl_string]) [.slice (some ⟨(AW.next h), 0, none⟩) 0 0, .slice p1 m2 m3]) fun v4 h5 => vSl v4 fun p6 m7 m8 => Q (.slice p6 m7 m8) h5)) : EvQ P
 f_e6 [.slice p1 m2 m3] h Q := fo [] H (by kernel_rfl)
theorem r_cs {p1 : Option Addr} {n2 n3 : Int} {s4 : ByteArray} {p5 : Option Addr} {m6 m7 : Nat} {p8 : Option Addr} {m9 m10 : Nat} {p11 : Option Addr} {m12 m13 : Nat} (H : oB (AW.rd (AW.addVar h [.int .i64 n2, .int .i64 n3, .string s4, .slice p5 m6 m7,
 .slice p8 m9 m10, .slice p11 m12 m13]) (AW.next h) 4) fun v14 => vSl v14 fun p15 m16 m17 => aP p15 fun m18 m19 => oB (natIdx 0 m16) fun m20 => oB (AW.rd (AW.addVar h
 [.int .i64 n2, .int .i64 n3, .string s4, .slice p5 m6 m7, .slice p8 m9 m10, .slice p11 m12 m13]) m18 (m19 + m20 * 5)) fun v21 => vStr
 v21 fun s22 => oB (AW.rd (AW.addVar h [.int .i64 n2, .int .i64 n3, .string s4, .slice p5 m6 m7, .slice p8 m9 m10, .slice p11 m12 m13])
 m18 (m19 + m20 * 5 + 1)) fun v23 => vInt .i64 v23 fun n24 => oB (AW.rd (AW.addVar h [.int .i64 n2, .int .i64 n3, .string s4, .slice p5 m6
 m7, .slice p8 m9 m10, .slice p11 m12 m13]) m18 (m19 + m20 * 5 + 1 + 1)) fun v25 => vInt .i64 v25 fun n26 => oB (AW.rd (AW.addVar h [.int .i64 n2,
 .int .i64 n3, .string s4, .slice p5 m6 m7, .slice p8 m9 m10, .slice p11 m12 m13]) m18 (m19 + m20 * 5 + 1 + 1 + 1)) fun v27 => vBool v27 fun b28 =>
 oB (AW.rd (AW.addVar h [.int .i64 n2, .int .i64 n3, .string s4, .slice p5 m6 m7, .slice p8 m9 m10, .slice p11 m12 m13]) m18 (m19 + m20
 * 5 + 1 + 1 + 1 + 1)) fun v29 => vBool v29 fun b30 => oB (AW.wrL (AW.addVar (AW.addVar h [.int .i64 n2, .int .i64 n3, .string s4, .slice p5 m6
 m7, .slice p8 m9 m10, .slice p11 m12 m13]) [.string (ByteArray.mk #[]), .int .i64 0, .int .i64 0, .bool false, .bool false])
 (AW.next (AW.addVar h [.int .i64 n2, .int .i64 n3, .string s4, .slice p5 m6 m7, .slice p8 m9 m10, .slice p11 m12 m13])) 0
 [.string s22, .int .i64 n24, .int .i64 n26, .bool b28, .bool b30]) fun h31 => oB (AW.rd h31 (AW.next h) 4) fun v32 => vSl v32 fun p33 m34
 m35 => EvQ P f_cp [.pointer p1, .slice p33 m34 m35] h31 fun v36 h37 => vTup v36 fun l38 => lC l38 fun v39 l40 => vSl v39 fun p41 m42 m43 => lC l40 fun v44 l45 => vBool
 v44 fun b46 => lN l45 (bC (!b46) (Q (.bool false) h37) (EvQ P f_bu [.slice p41 m42 m43] h37 fun v47 h48 => vSl v47 fun p49 m50 m51 => EvQ P f_fa [.slice p49 m50
 m51, .string (ByteArray.mk #[32])] h48 fun v52 h53 => vStr v52 fun s54 => EvQ P f_do [.string s54] h53 fun v55 h56 => vTup v55 fun l57 => lC l57 fun v58 l59 => vStr v58
 fun s60 => lC l59 fun v61 l62 => vInt .i64 v61 fun n63 => lN l62 (bC (n63 != 0) (oB (AW.rd h56 (AW.next (AW.addVar h [.int .i64 n2, .int .i64 n3,
 .string s4, .slice p5 m6 m7, .slice p8 m9 m10, .slice p11 m12 m13])) 0) fun v64 => vStr v64 fun s65 => oB (AW.rd h56 (AW.next (AW.addVar h [.int
 .i64 n2, .int .i64 n3, .string s4, .slice p5 m6 m7, .slice p8 m9 m10, .slice p11 m12 m13])) 1) fun v66 => vInt .i64 v66 fun n67 =>
 oB (AW.rd h56 (AW.next (AW.addVar h [.int .i64 n2, .int .i64 n3, .string s4, .slice p5 m6 m7, .slice p8 m9 m10, .slice p11 m12 m13]))
 2) fun v68 => vInt .i64 v68 fun n69 => oB (AW.rd h56 (AW.next (AW.addVar h [.int .i64 n2, .int .i64 n3, .string s4, .slice p5 m6 m7,
 .slice p8 m9 m10, .slice p11 m12 m13])) 3) fun v70 => vBool v70 fun b71 => oB (AW.rd h56 (AW.next (AW.addVar h [.int .i64 n2, .int .i64 n3,
 .string s4, .slice p5 m6 m7, .slice p8 m9 m10, .slice p11 m12 m13])) 4) fun v72 => vBool v72 fun b73 => EvQ P f_cf [.pointer p1, .int .i64
 n63, .agg (Array.mk [.string s65, .int .i64 n67, .int .i64 n69, .bool b71, .bool b73])] h56 fun v74 h75 => vBool v74 fun b76 => Q
 (.bool b76) h75) (aP p1 fun m77 m78 => oB (AW.rd h56 m77 (m78 + 4)) fun v79 => vInt .i64 v79 fun n80 => bC (n80 == 64) (oB (AW.rd h56 (AW.next (AW.addVar h [.int
 .i64 n2, .int .i64 n3, .string s4, .slice p5 m6 m7, .slice p8 m9 m10, .slice p11 m12 m13])) 0) fun v81 => vStr v81 fun s82 => oB (AW.rd h56
 (AW.next (AW.addVar h [.int .i64 n2, .int .i64 n3, .string s4, .slice p5 m6 m7, .slice p8 m9 m10, .slice p11 m12 m13])) 1) fun v83 =>
 vInt .i64 v83 fun n84 => oB (AW.rd h56 (AW.next (AW.addVar h [.int .i64 n2, .int .i64 n3, .string s4, .slice p5 m6 m7, .slice p8 m9
 m10, .slice p11 m12 m13])) 2) fun v85 => vInt .i64 v85 fun n86 => oB (AW.rd h56 (AW.next (AW.addVar h [.int .i64 n2, .int .i64 n3,
 .string s4, .slice p5 m6 m7, .slice p8 m9 m10, .slice p11 m12 m13])) 3) fun v87 => vBool v87 fun b88 => oB (AW.rd h56 (AW.next (AW.addVar h [.int
 .i64 n2, .int .i64 n3, .string s4, .slice p5 m6 m7, .slice p8 m9 m10, .slice p11 m12 m13])) 4) fun v89 => vBool v89 fun b90 => EvQ P f_cf
 [.pointer p1, .int .i64 3, .agg (Array.mk [.string s82, .int .i64 n84, .int .i64 n86, .bool b88, .bool b90])] h56 fun
 v91 h92 => vBool v91 fun b93 => Q (.bool b93) h92) (aP p1 fun m94 m95 => oB (AW.rd h56 m94 (m95 + 5)) fun v96 => vSl v96 fun p97 m98 m99 => bC (decide ((↑m98 : Int) > 8))
 (oB (AW.rd h56 (AW.next (AW.addVar h [.int .i64 n2, .int .i64 n3, .string s4, .slice p5 m6 m7, .slice p8 m9 m10, .slice p11 m12 m13]))
 0) fun v100 => vStr v100 fun s101 => oB (AW.rd h56 (AW.next (AW.addVar h [.int .i64 n2, .int .i64 n3, .string s4, .slice p5 m6 m7, .slice
 p8 m9 m10, .slice p11 m12 m13])) 1) fun v102 => vInt .i64 v102 fun n103 => oB (AW.rd h56 (AW.next (AW.addVar h [.int .i64 n2, .int .i64 n3,
 .string s4, .slice p5 m6 m7, .slice p8 m9 m10, .slice p11 m12 m13])) 2) fun v104 => vInt .i64 v104 fun n105 => oB (AW.rd h56 (AW.next (AW.addVar h
 [.int .i64 n2, .int .i64 n3, .string s4, .slice p5 m6 m7, .slice p8 m9 m10, .slice p11 m12 m13])) 3) fun v106 => vBool v106 fun b107
 => oB (AW.rd h56 (AW.next (AW.addVar h [.int .i64 n2, .int .i64 n3, .string s4, .slice p5 m6 m7, .slice p8 m9 m10, .slice p11 m12
 m13])) 4) fun v108 => vBool v108 fun b109 => EvQ P f_cf [.pointer p1, .int .i64 3, .agg (Array.mk [.string s101, .int .i64 n103, .int
 .i64 n105, .bool b107, .bool b109])] h56 fun v110 h111 => vBool v110 fun b112 => Q (.bool b112) h111) (aP p1 fun m113 m114 => oB (AW.rd h56 m113 (m114 + 5))
 fun v115 => vSl v115 fun p116 m117 m118 => EvQ P f_e7 [.slice p116 m117 m118, .string s60] h56 fun v119 h120 => vBool v119 fun b121 => bC b121 (oB (AW.rd h120 (AW.next
 (AW.addVar h [.int .i64 n2, .int .i64 n3, .string s4, .slice p5 m6 m7, .slice p8 m9 m10, .slice p11 m12 m13])) 0) fun v122 => vStr
 v122 fun s123 => oB (AW.rd h120 (AW.next (AW.addVar h [.int .i64 n2, .int .i64 n3, .string s4, .slice p5 m6 m7, .slice p8 m9 m10,
 .slice p11 m12 m13])) 1) fun v124 => vInt .i64 v124 fun n125 => oB (AW.rd h120 (AW.next (AW.addVar h [.int .i64 n2, .int .i64 n3, .string
 s4, .slice p5 m6 m7, .slice p8 m9 m10, .slice p11 m12 m13])) 2) fun v126 => vInt .i64 v126 fun n127 => oB (AW.rd h120 (AW.next (AW.addVar h [.int
 .i64 n2, .int .i64 n3, .string s4, .slice p5 m6 m7, .slice p8 m9 m10, .slice p11 m12 m13])) 3) fun v128 => vBool v128 fun b129 => oB (AW.rd
 h120 (AW.next (AW.addVar h [.int .i64 n2, .int .i64 n3, .string s4, .slice p5 m6 m7, .slice p8 m9 m10, .slice p11 m12 m13])) 4) fun
 v130 => vBool v130 fun b131 => EvQ P f_cf [.pointer p1, .int .i64 150, .agg (Array.mk [.string s123, .int .i64 n125, .int .i64
 n127, .bool b129, .bool b131])] h120 fun v132 h133 => vBool v132 fun b134 => Q (.bool b134) h133) (aP p1 fun m135 m136 => oB (AW.rd h120 m135 (m136 + 4)) fun v137
 => vInt .i64 v137 fun n138 => aP p1 fun m139 m140 => oB (AW.wr h120 m139 (m140 + 4) (.int .i64 (IntKind.wrap .i64 (n138 + 1)))) fun h141 => aP p1 fun
 m142 m143 => oB (AW.rd h141 m142 m143) fun v144 => vFun v144 fun m145 l146 l147 => EvQ P m145 (l146 ++ .string s60 :: l147) h141 fun v148 h149 => vTup v148 fun l150 => lC
 l150 fun v151 l152 => vStr v151 fun s153 => lC l152 fun v154 l155 => vBool v154 fun b156 => lN l155 (bC (!b156) (oB (AW.rd h149 (AW.next (AW.addVar h [.int .i64 n2,
 .int .i64 n3, .string s4, .slice p5 m6 m7, .slice p8 m9 m10, .slice p11 m12 m13])) 0) fun v157 => vStr v157 fun s158 => oB (AW.rd h149 (AW.next
 (AW.addVar h [.int .i64 n2, .int .i64 n3, .string s4, .slice p5 m6 m7, .slice p8 m9 m10, .slice p11 m12 m13])) 1) fun v159 => vInt
 .i64 v159 fun n160 => oB (AW.rd h149 (AW.next (AW.addVar h [.int .i64 n2, .int .i64 n3, .string s4, .slice p5 m6 m7, .slice p8 m9
 m10, .slice p11 m12 m13])) 2) fun v161 => vInt .i64 v161 fun n162 => oB (AW.rd h149 (AW.next (AW.addVar h [.int .i64 n2, .int .i64 n3,
 .string s4, .slice p5 m6 m7, .slice p8 m9 m10, .slice p11 m12 m13])) 3) fun v163 => vBool v163 fun b164 => oB (AW.rd h149 (AW.next (AW.addVar h [.int
 .i64 n2, .int .i64 n3, .string s4, .slice p5 m6 m7, .slice p8 m9 m10, .slice p11 m12 m13])) 4) fun v165 => vBool v165 fun b166 => EvQ P
 f_cf [.pointer p1, .int .i64 4, .agg (Array.mk [.string s158, .int .i64 n160, .int .i64 n162, .bool b164, .bool
 b166])] h149 fun v167 h168 => vBool v167 fun b169 => Q (.bool b169) h168) (EvQ P f_cg [.pointer p1, .string s60, .string s153] h149 fun v170 h171 => vBool
 v170 fun b172 => Q (.bool b172) h171)))))))))) : EvQ P f_cs [.pointer p1, .agg (Array.mk [.int .i64 n2, .int .i64 n3, .string s4,
 .slice p5 m6 m7, .slice p8 m9 m10, .slice p11 m12 m13])] h Q := fo [] H (by kernel_rfl)
theorem r_dn {s1 s2 : ByteArray} (H : EvQ P f_f4 [.string s1, .string (ByteArray.mk #[37])] h fun v3 h4 => vTup v3 fun l5
 => lC l5 fun v6 l7 => vStr v6 fun s8 => lC l7 fun v9 l10 => vStr v9 fun s11 => lC l10 fun v12 l13 => vBool v12 fun b14 => lN l13 (bC (!b14) (Q (.tuple (Array.mk
 [.string (ByteArray.mk #[]), .bool (bEq s1 s2)])) h4) (EvQ P f_f2 [.string s11, .string (ByteArray.mk #[37])] h4 fun v15 h16 => vBool v15 fun b17 => bC b17
 (Q (.tuple (Array.mk [.string (ByteArray.mk #[]), .bool false])) h16) (bC (decide ((↑(ByteArray.size s2) : Int) ≤ IntKind.wrap .i64 ((↑(ByteArray.size s8) :
 Int) + (↑(ByteArray.size s11) : Int)))) (Q (.tuple (Array.mk [.string (ByteArray.mk #[]), .bool false])) h16) (EvQ P f_f6 [.string s2, .string s8] h16
 fun v18 h19 => vBool v18 fun b20 => bC (!b20) (Q (.tuple (Array.mk [.string (ByteArray.mk #[]), .bool false])) h19) (EvQ P f_f7 [.string s2, .string
 s11] h19 fun v21 h22 => vBool v21 fun b23 => bC (!b23) (Q (.tuple (Array.mk [.string (ByteArray.mk #[]), .bool false])) h22) (oB (natBnd (IntKind.wrap .i64
 ((↑(ByteArray.size s2) : Int) - (↑(ByteArray.size s11) : Int))) (ByteArray.size s2)) fun m24 => oB (natBnd (↑(ByteArray.size s8) : Int) m24) fun m25 => Q (.tuple (Array.mk
 [.string (bSub s2 m25 m24), .bool true])) h22))))))) : EvQ P f_dn [.string s1, .string s2] h Q := fo [] H (by kernel_rfl)
theorem r_cr {p1 : Option Addr} (H : aP p1 fun m2 m3 => oB (AW.rd h m2 (m3 + 1)) fun v4 => vPtr v4 fun p5 => aP p5 fun m6 m7 => oB (AW.rd h m6
 (m7 + 1)) fun v8 => vMap v8 fun p9 => oB (AW.mapL h p9) fun l10 => aP p1 fun m11 m12 => oB (AW.rd h m11 (m12 + 1)) fun v13 => vPtr v13 fun p14 => aP p14 fun m15 m16 => oB (AW.rd
 h m15 (m16 + 2)) fun v17 => vSl v17 fun p18 m19 m20 => Q (.bool (decide (IntKind.wrap .i64 ((↑(List.length l10) : Int) + (↑m19 : Int)) ≥ 256))) h) : EvQ P f_cr
 [.pointer p1] h Q := fo [] H (by kernel_rfl)
theorem r_fv {s1 s2 : ByteArray} (H : bC ((↑(ByteArray.size s2) : Int) == 0) (Q (.int .i64 0) h) (bC (bEq s2 s1) (Q
 (.int .i64 0) h) (bC ((↑(ByteArray.size s2) : Int) == 1) (oB (natIdx 0 (ByteArray.size s2)) fun m3 => oB (bAt s2 m3) fun n4 => EvQ P f_fw [.string s1, .int
 .u8 n4] h fun v5 h6 => vInt .i64 v5 fun n7 => Q (.int .i64 n7) h6) (bC (decide ((↑(ByteArray.size s2) : Int) ≥ (↑(ByteArray.size s1) : Int))) (Q
 (.int .i64 (Int.negSucc 0)) h) (oB (AW.rd h 0 0) fun v8 => vInt .i64 v8 fun n9 => bC (decide ((↑(ByteArray.size s2) : Int) ≤ n9)) (bC (decide
 ((↑(ByteArray.size s1) : Int) ≤ 64)) (EvQ P f_bd [.string s1, .string s2] h fun v10 h11 => vInt .i64 v10 fun n12 => Q (.int .i64 n12) h11) (oB
 (natIdx 0 (ByteArray.size s2)) fun m13 => oB (bAt s2 m13) fun n14 => oB (natIdx 1 (ByteArray.size s2)) fun m15 => oB (bAt s2 m15) fun n16 => unitAt P f_fv 15 [0, 1, 5, 6, 7, 8,
 9, 10] [.string s1, .string s2, .int .i64 (↑(ByteArray.size s2) : Int), .int .u8 n14, .int .u8 n16, .int .i64 0,
 .int .i64 (IntKind.wrap .i64 (IntKind.wrap .i64 ((↑(ByteArray.size s1) : Int) - (↑(ByteArray.size s2) : Int)) + 1)), .int .i64 0] h Q)) (oB
 (natIdx 0 (ByteArray.size s2)) fun m17 => oB (bAt s2 m17) fun n18 => oB (natIdx 1 (ByteArray.size s2)) fun m19 => oB (bAt s2 m19) fun n20 => unitAt P f_fv 15 [0, 1, 5, 6, 7, 8,
 9, 10] [.string s1, .string s2, .int .i64 (↑(ByteArray.size s2) : Int), .int .u8 n18, .int .u8 n20, .int .i64 0,
 .int .i64 (IntKind.wrap .i64 (IntKind.wrap .i64 ((↑(ByteArray.size s1) : Int) - (↑(ByteArray.size s2) : Int)) + 1)), .int .i64 0] h Q))))))
 : EvQ P f_fv [.string s1, .string s2] h Q := fo [(15,[0,1,5,6,7,8,9,10]),(21,[0,1,5,6,7,8,9,10])] H (by kernel_rfl)
end Go.Proofs.YtamoepfiodgbbaaGreatDoor.E
end

section
/- Rules of walks, printed by a program of ours: group E14. -/
namespace Go.Proofs.YtamoepfiodgbbaaGreatDoor.E
open Go.Abs
set_option maxRecDepth 100000
variable {h : AW} {Q : Value → AW → Prop}
theorem r_a2 {p1 : Option Addr} {m2 m3 : Nat} (H : EvQ P f_ak [.slice p1 m2 m3, .int .i64 0] h fun v4 h5 => vBool v4 fun
 b6 => bC b6 (EvQ P f_ab [.slice p1 m2 m3] h5 fun v7 h8 => vInt .i64 v7 fun n9 => Q (.bool (decide (n9 ≤ 256))) h8) (Q (.bool false) h5)) : EvQ P f_a2
 [.slice p1 m2 m3] h Q := fo [] H (by kernel_rfl)
theorem r_bq {s1 : ByteArray} {p2 : Option Addr} {m3 m4 : Nat} {p5 : Option Addr} {m6 m7 : Nat} {p8 : Option Addr} {m9 m10 : Nat} (H : oB (AW.rd (AW.addVar (AW.addVar h [.string s1, .slice p2 m3 m4, .slice p5 m6 m7, .slice p8 m9 m10]) [.string (ByteArray.mk #[]), .slice
 none 0 0, .slice none 0 0, .slice none 0 0]) (AW.next h) 0) fun v11 => vStr v11 fun s12 => oB (AW.rd (AW.addVar (AW.addVar h [.string s1, .slice p2 m3 m4,
 .slice p5 m6 m7, .slice p8 m9 m10]) [.string (ByteArray.mk #[]), .slice none 0 0, .slice none 0 0, .slice none 0 0]) (AW.next h) 1) fun v13 => vSl
 v13 fun p14 m15 m16 => EvQ P f_e6 [.slice p14 m15 m16] (AW.addVar (AW.addVar h [.string s1, .slice p2 m3 m4, .slice p5 m6 m7, .slice p8 m9 m10])
 [.string (ByteArray.mk #[]), .slice none 0 0, .slice none 0 0, .slice none 0 0]) fun v17 h18 => vSl v17 fun p19 m20 m21 => oB (AW.rd h18 (AW.next h) 2) fun
 v22 => vSl v22 fun p23 m24 m25 => EvQ P f_e6 [.slice p23 m24 m25] h18 fun v26 h27 => vSl v26 fun p28 m29 m30 => oB (AW.rd h27 (AW.next h) 3) fun v31 => vSl v31 fun p32 m33
 m34 => EvQ P f_bo [.slice p32 m33 m34] h27 fun v35 h36 => vSl v35 fun p37 m38 m39 => oB (AW.wrL h36 (AW.next (AW.addVar h [.string s1, .slice p2 m3 m4, .slice
 p5 m6 m7, .slice p8 m9 m10])) 0 [.string s12, .slice p19 m20 m21, .slice p28 m29 m30, .slice p37 m38 m39]) fun h40 => oB (AW.rd h18 (AW.next h) 0) fun
 v41 => vStr v41 fun s42 => Value.string s42 = .string s12 ∧ oB (AW.rd h27 (AW.next h) 0) fun v43 => vStr v43 fun s44 => Value.string s44 = .string s12 ∧ oB (AW.rd h36
 (AW.next h) 0) fun v45 => vStr v45 fun s46 => Value.string s46 = .string s12 ∧ oB (AW.rd (AW.addVar (AW.addVar h [.string s1, .slice p2 m3 m4, .slice p5 m6
 m7, .slice p8 m9 m10]) [.string (ByteArray.mk #[]), .slice none 0 0, .slice none 0 0, .slice none 0 0]) (AW.next h) 2) fun v47 => vSl v47 fun p48 m49 m50
 => Value.slice p48 m49 m50 = .slice p23 m24 m25 ∧ oB (AW.rd (AW.addVar (AW.addVar h [.string s1, .slice p2 m3 m4, .slice p5 m6 m7, .slice p8 m9 m10])
 [.string (ByteArray.mk #[]), .slice none 0 0, .slice none 0 0, .slice none 0 0]) (AW.next h) 3) fun v51 => vSl v51 fun p52 m53 m54 => Value.slice p52 m53 m54
 = .slice p32 m33 m34 ∧ oB (AW.rd h18 (AW.next h) 3) fun v55 => vSl v55 fun p56 m57 m58 => Value.slice p56 m57 m58 = .slice p32 m33 m34 ∧ oB (AW.rd h40 (AW.next
 (AW.addVar h [.string s1, .slice p2 m3 m4, .slice p5 m6 m7, .slice p8 m9 m10])) 0) fun v59 => vStr v59 fun s60 => oB (AW.rd h40 (AW.next (AW.addVar h
 [.string s1, .slice p2 m3 m4, .slice p5 m6 m7, .slice p8 m9 m10])) 1) fun v61 => vSl v61 fun p62 m63 m64 => oB (AW.rd h40 (AW.next (AW.addVar h [.string
 s1, .slice p2 m3 m4, .slice p5 m6 m7, .slice p8 m9 m10])) 2) fun v65 => vSl v65 fun p66 m67 m68 => oB (AW.rd h40 (AW.next (AW.addVar h [.string s1,
 .slice p2 m3 m4, .slice p5 m6 m7, .slice p8 m9 m10])) 3) fun v69 => vSl v69 fun p70 m71 m72 => Q (.agg (Array.mk [.string s60, .slice p62 m63 m64,
 .slice p66 m67 m68, .slice p70 m71 m72])) h40) : EvQ P f_bq [.agg (Array.mk [.string s1, .slice p2 m3 m4, .slice p5 m6 m7, .slice p8 m9 m10])]
 h Q := fo [] H (by kernel_rfl)
end Go.Proofs.YtamoepfiodgbbaaGreatDoor.E
end

section
/- Rules of walks, printed by a program of ours: group E15. -/
namespace Go.Proofs.YtamoepfiodgbbaaGreatDoor.E
open Go.Abs
set_option maxRecDepth 100000
variable {h : AW} {Q : Value → AW → Prop}
theorem r_c4 {n1 : Int} (H : bC (n1 == 34) (Q (.bool false) h) (bC (n1 == 35) (Q (.bool false) h) (bC (n1 == 58) (Q (.bool false)
 h) (bC (n1 == 61) (Q (.bool false) h) (bC (n1 == 92) (Q (.bool false) h) (bC (decide (n1 > 32)) (Q (.bool (decide (n1 < 127))) h) (Q (.bool false) h))))))) :
 EvQ P f_c4 [.int .u8 n1] h Q := fo [] H (by kernel_rfl)
theorem r_fs {s1 s2 : ByteArray} (H : EvQ P f_ft [.string s1, .string s2] h fun v3 h4 => vBool v3 fun b5 => bC (!b5) (Q
 (.tuple (Array.mk [.string s1, .bool false])) h4) (oB (natBnd (↑(ByteArray.size s2) : Int) (ByteArray.size s1)) fun m6 => Q (.tuple (Array.mk [.string
 (bSub s1 m6 (ByteArray.size s1)), .bool true])) h4)) : EvQ P f_fs [.string s1, .string s2] h Q := fo [] H (by kernel_rfl)
end Go.Proofs.YtamoepfiodgbbaaGreatDoor.E
end
