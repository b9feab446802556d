/- A deterministic heap for the model, proved sound, and walks of the program over it: part 8. No condition. -/
import Derived.Test.YtamoepfiodgbbaaGreatDoorCa2
set_option linter.unusedVariables false
set_option linter.unusedSimpArgs false
set_option linter.unusedSectionVars false
section
/- Rules of walks, printed by a program of ours: group E10. -/
namespace Go.Proofs.YtamoepfiodgbbaaGreatDoor.E
open Go.Abs
set_option maxRecDepth 100000
variable {h : AW} {Q : Value → AW → Prop}
theorem r_cc {p1 : Option Addr} {s2 : ByteArray} (H : bC (Option.isNone p1) (oB (AW.wrL (AW.addVar h [.string (ByteArray.mk #[]),
 .slice none 0 0, .slice none 0 0, .slice none 0 0]) (AW.next h) 0 [.string (ByteArray.mk #[]), .slice none 0 0, .slice none 0 0, .slice none 0
 0]) fun h3 => oB (AW.rd h3 (AW.next h) 0) fun v4 => vStr v4 fun s5 => oB (AW.rd h3 (AW.next h) 1) fun v6 => vSl v6 fun p7 m8 m9 => oB (AW.rd h3 (AW.next h) 2) fun v10 => vSl v10
 fun p11 m12 m13 => oB (AW.rd h3 (AW.next h) 3) fun v14 => vSl v14 fun p15 m16 m17 => Q (.tuple (Array.mk [.agg (Array.mk [.string s5, .slice p7 m8 m9,
 .slice p11 m12 m13, .slice p15 m16 m17]), .bool false])) h3) (EvQ P f_dl [.string s2] (AW.addVar h [.string (ByteArray.mk #[]), .slice none 0 0,
 .slice none 0 0, .slice none 0 0]) fun v18 h19 => vBool v18 fun b20 => bC (!b20) (oB (AW.wrL h19 (AW.next h) 0 [.string (ByteArray.mk #[]), .slice none 0 0,
 .slice none 0 0, .slice none 0 0]) fun h21 => oB (AW.rd h21 (AW.next h) 0) fun v22 => vStr v22 fun s23 => oB (AW.rd h21 (AW.next h) 1) fun v24 => vSl v24 fun p25 m26
 m27 => oB (AW.rd h21 (AW.next h) 2) fun v28 => vSl v28 fun p29 m30 m31 => oB (AW.rd h21 (AW.next h) 3) fun v32 => vSl v32 fun p33 m34 m35 => Q (.tuple (Array.mk [.agg
 (Array.mk [.string s23, .slice p25 m26 m27, .slice p29 m30 m31, .slice p33 m34 m35]), .bool false])) h21) (aP p1 fun m36 m37 => oB (AW.rd h19 m36 (m37 +
 1)) fun v38 => vMap v38 fun p39 => oB (AW.mapL h19 p39) fun l40 => oB (Abs.look TypeDesc.string (.string s2) l40) fun p41 => vStr (Option.getD p41 (.string
 (ByteArray.mk #[]))) fun s42 => bC (Option.isSome p41) (aP p1 fun m43 m44 => oB (AW.rd h19 m43 m44) fun v45 => vMap v45 fun p46 => oB (AW.mapL h19 p46) fun l47 => oB (Abs.look
 TypeDesc.string (.string s42) l47) fun p48 => vAgg (Option.getD p48 (.agg (Array.mk [.string (ByteArray.mk #[]), .slice none 0 0, .slice none 0 0,
 .slice none 0 0]))) fun l49 => lC l49 fun v50 l51 => vStr v50 fun s52 => lC l51 fun v53 l54 => vSl v53 fun p55 m56 m57 => lC l54 fun v58 l59 => vSl v58 fun p60 m61 m62 => lC
 l59 fun v63 l64 => vSl v63 fun p65 m66 m67 => lN l64 (EvQ P f_bq [.agg (Array.mk [.string s52, .slice p55 m56 m57, .slice p60 m61 m62, .slice p65 m66
 m67])] h19 fun v68 h69 => vAgg v68 fun l70 => lC l70 fun v71 l72 => vStr v71 fun s73 => lC l72 fun v74 l75 => vSl v74 fun p76 m77 m78 => lC l75 fun v79 l80 => vSl v79 fun p81 m82
 m83 => lC l80 fun v84 l85 => vSl v84 fun p86 m87 m88 => lN l85 (oB (AW.wrL h69 (AW.next h) 0 [.string s73, .slice p76 m77 m78, .slice p81 m82 m83, .slice p86
 m87 m88]) fun h89 => oB (AW.rd h89 (AW.next h) 0) fun v90 => vStr v90 fun s91 => oB (AW.rd h89 (AW.next h) 1) fun v92 => vSl v92 fun p93 m94 m95 => oB (AW.rd h89 (AW.next h) 2)
 fun v96 => vSl v96 fun p97 m98 m99 => oB (AW.rd h89 (AW.next h) 3) fun v100 => vSl v100 fun p101 m102 m103 => Q (.tuple (Array.mk [.agg (Array.mk [.string s91,
 .slice p93 m94 m95, .slice p97 m98 m99, .slice p101 m102 m103]), .bool true])) h89))) (aP p1 fun m104 m105 => oB (AW.rd h19 m104 (m105 + 2)) fun v106 => vSl
 v106 fun p107 m108 m109 => unitAt P f_cc 7 [1, 4, 40, 41, 42] [.string s2, .pointer (some ⟨(AW.next h), 0, none⟩), .slice p107 m108 m109, .int
 .i64 (↑m108 : Int), .int .i64 0] h19 Q)))) : EvQ P f_cc [.pointer p1, .string s2] h Q := fo [(7,[1,4,40,41,42])] H (by kernel_rfl)
theorem r_cd {s1 : ByteArray} {m2 : Nat} {p3 : Option Addr} {m4 m5 : Nat} {n6 n7 : Int} (H : bC (decide (n7 < n6)) (aP p3 fun
 m8 m9 => oB (natIdx n7 m4) fun m10 => oB (AW.rd h m8 (m9 + m10 * 3)) fun v11 => vStr v11 fun s12 => oB (AW.rd h m8 (m9 + m10 * 3 + 1)) fun v13 => vSl v13 fun p14 m15 m16 => oB
 (AW.rd h m8 (m9 + m10 * 3 + 1 + 1)) fun v17 => vSl v17 fun p18 m19 m20 => oB (AW.wrL (AW.addVar h [.string (ByteArray.mk #[]), .slice none 0 0, .slice none 0 0])
 (AW.next h) 0 [.string s12, .slice p14 m15 m16, .slice p18 m19 m20]) fun h21 => oB (AW.rd h21 (AW.next h) 0) fun v22 => vStr v22 fun s23 => oB (AW.rd h21 (AW.next
 h) 1) fun v24 => vSl v24 fun p25 m26 m27 => oB (AW.rd h21 (AW.next h) 2) fun v28 => vSl v28 fun p29 m30 m31 => EvQ P f_br [.agg (Array.mk [.string s23, .slice p25
 m26 m27, .slice p29 m30 m31]), .string s1] h21 fun v32 h33 => vTup v32 fun l34 => lC l34 fun v35 l36 => vAgg v35 fun l37 => lC l37 fun v38 l39 => vStr v38 fun s40 => lC
 l39 fun v41 l42 => vSl v41 fun p43 m44 m45 => lC l42 fun v46 l47 => vSl v46 fun p48 m49 m50 => lC l47 fun v51 l52 => vSl v51 fun p53 m54 m55 => lN l52 (lC l36 fun v56 l57 =>
 vBool v56 fun b58 => lN l57 (oB (AW.wrL (AW.addVar h33 [.string (ByteArray.mk #[]), .slice none 0 0, .slice none 0 0, .slice none 0 0]) (AW.next h33) 0
 [.string s40, .slice p43 m44 m45, .slice p48 m49 m50, .slice p53 m54 m55]) fun h59 => bC b58 (oB (AW.rd h59 (AW.next h33) 0) fun v60 => vStr v60 fun s61 => oB
 (AW.rd h59 (AW.next h33) 1) fun v62 => vSl v62 fun p63 m64 m65 => oB (AW.rd h59 (AW.next h33) 2) fun v66 => vSl v66 fun p67 m68 m69 => oB (AW.rd h59 (AW.next h33) 3) fun v70 =>
 vSl v70 fun p71 m72 m73 => oB (AW.wrL h59 m2 0 [.string s61, .slice p63 m64 m65, .slice p67 m68 m69, .slice p71 m72 m73]) fun h74 => oB (AW.rd h74 m2 0) fun
 v75 => vStr v75 fun s76 => oB (AW.rd h74 m2 1) fun v77 => vSl v77 fun p78 m79 m80 => oB (AW.rd h74 m2 2) fun v81 => vSl v81 fun p82 m83 m84 => oB (AW.rd h74 m2 3) fun v85 => vSl
 v85 fun p86 m87 m88 => Q (.tuple (Array.mk [.agg (Array.mk [.string s76, .slice p78 m79 m80, .slice p82 m83 m84, .slice p86 m87 m88]), .bool
 true])) h74) (unitAt P f_cc 7 [1, 4, 40, 41, 42] [.string s1, .pointer (some ⟨m2, 0, none⟩), .slice p3 m4 m5, .int .i64 n6, .int .i64
 (IntKind.wrap .i64 (n7 + 1))] h59 Q)))) (oB (AW.wrL h m2 0 [.string (ByteArray.mk #[]), .slice none 0 0, .slice none 0 0, .slice none 0 0]) fun h89 =>
 oB (AW.rd h89 m2 0) fun v90 => vStr v90 fun s91 => oB (AW.rd h89 m2 1) fun v92 => vSl v92 fun p93 m94 m95 => oB (AW.rd h89 m2 2) fun v96 => vSl v96 fun p97 m98 m99 => oB (AW.rd
 h89 m2 3) fun v100 => vSl v100 fun p101 m102 m103 => Q (.tuple (Array.mk [.agg (Array.mk [.string s91, .slice p93 m94 m95, .slice p97 m98 m99,
 .slice p101 m102 m103]), .bool false])) h89)) : unitAt P f_cc 7 [1, 4, 40, 41, 42] [.string s1, .pointer (some ⟨m2, 0, none⟩), .slice p3 m4 m5,
 .int .i64 n6, .int .i64 n7] h Q := uo [(7,[1,4,40,41,42])] H (by kernel_rfl)
theorem r_dy {n1 : Int} {b2 : Bool} {p3 : Option Addr} {m4 m5 : Nat} (H : oB (AW.rd (AW.addVar (AW.addVar (AW.addVar h [.int
 .i64 n1, .bool b2, .slice p3 m4 m5]) [.int .i64 0, .int .i64 0, .string (ByteArray.mk #[]), .slice none 0 0, .slice none 0
 0, .slice none 0 0]) [.int .i64 0, .string (ByteArray.mk #[]), .int .i64 0, .int .i64 0]) (AW.next h) 2) fun v6 => vSl v6 fun p7 m8
 m9 => aP p7 fun m10 m11 => oB (natIdx (IntKind.wrap .i64 ((↑m8 : Int) - 1)) m8) fun m12 => oB (AW.rd (AW.addVar (AW.addVar (AW.addVar h [.int .i64 n1,
 .bool b2, .slice p3 m4 m5]) [.int .i64 0, .int .i64 0, .string (ByteArray.mk #[]), .slice none 0 0, .slice none 0 0, .slice
 none 0 0]) [.int .i64 0, .string (ByteArray.mk #[]), .int .i64 0, .int .i64 0]) m10 (m11 + m12 * 5)) fun v13 => vStr v13 fun s14 => oB
 (AW.rd (AW.addVar (AW.addVar (AW.addVar h [.int .i64 n1, .bool b2, .slice p3 m4 m5]) [.int .i64 0, .int .i64 0, .string
 (ByteArray.mk #[]), .slice none 0 0, .slice none 0 0, .slice none 0 0]) [.int .i64 0, .string (ByteArray.mk #[]), .int .i64 0,
 .int .i64 0]) m10 (m11 + m12 * 5 + 1)) fun v15 => vInt .i64 v15 fun n16 => oB (AW.rd (AW.addVar (AW.addVar (AW.addVar h [.int .i64 n1, .bool
 b2, .slice p3 m4 m5]) [.int .i64 0, .int .i64 0, .string (ByteArray.mk #[]), .slice none 0 0, .slice none 0 0, .slice none 0 0])
 [.int .i64 0, .string (ByteArray.mk #[]), .int .i64 0, .int .i64 0]) m10 (m11 + m12 * 5 + 1 + 1)) fun v17 => vInt .i64 v17 fun n18
 => oB (AW.rd (AW.addVar (AW.addVar (AW.addVar h [.int .i64 n1, .bool b2, .slice p3 m4 m5]) [.int .i64 0, .int .i64 0, .string
 (ByteArray.mk #[]), .slice none 0 0, .slice none 0 0, .slice none 0 0]) [.int .i64 0, .string (ByteArray.mk #[]), .int .i64 0,
 .int .i64 0]) m10 (m11 + m12 * 5 + 1 + 1 + 1)) fun v19 => vBool v19 fun b20 => oB (AW.rd (AW.addVar (AW.addVar (AW.addVar h [.int .i64 n1, .bool b2,
 .slice p3 m4 m5]) [.int .i64 0, .int .i64 0, .string (ByteArray.mk #[]), .slice none 0 0, .slice none 0 0, .slice none 0 0])
 [.int .i64 0, .string (ByteArray.mk #[]), .int .i64 0, .int .i64 0]) m10 (m11 + m12 * 5 + 1 + 1 + 1 + 1)) fun v21 => vBool v21 fun b22 =>
 oB (AW.wrL (AW.addVar (AW.addVar (AW.addVar (AW.addVar h [.int .i64 n1, .bool b2, .slice p3 m4 m5]) [.int .i64 0, .int .i64 0,
 .string (ByteArray.mk #[]), .slice none 0 0, .slice none 0 0, .slice none 0 0]) [.int .i64 0, .string (ByteArray.mk #[]), .int
 .i64 0, .int .i64 0]) [.string (ByteArray.mk #[]), .int .i64 0, .int .i64 0, .bool false, .bool false]) (AW.next
 (AW.addVar (AW.addVar (AW.addVar h [.int .i64 n1, .bool b2, .slice p3 m4 m5]) [.int .i64 0, .int .i64 0, .string (ByteArray.mk
 #[]), .slice none 0 0, .slice none 0 0, .slice none 0 0]) [.int .i64 0, .string (ByteArray.mk #[]), .int .i64 0, .int .i64
 0])) 0 [.string s14, .int .i64 n16, .int .i64 n18, .bool b20, .bool b22]) fun h23 => oB (AW.rd h23 (AW.next h) 0) fun v24 => vInt
 .i64 v24 fun n25 => oB (AW.wrL (AW.addVar h23 [.int .i64 0, .int .i64 0, .string (ByteArray.mk #[]), .slice none 0 0, .slice none 0
 0, .slice none 0 0]) (AW.next h23) 0 [.int .i64 0, .int .i64 n25, .string (ByteArray.mk #[]), .slice none 0 0, .slice none 0 0,
 .slice none 0 0]) fun h26 => aP p7 fun m27 m28 => oB (natIdx 0 m8) fun m29 => oB (AW.rd h26 m27 (m28 + m29 * 5)) fun v30 => vStr v30 fun s31 => oB (AW.rd h26 m27 (m28 + m29
 * 5 + 1)) fun v32 => vInt .i64 v32 fun n33 => oB (AW.rd h26 m27 (m28 + m29 * 5 + 1 + 1)) fun v34 => vInt .i64 v34 fun n35 => oB (AW.rd h26 m27 (m28 + m29 * 5 + 1 +
 1 + 1)) fun v36 => vBool v36 fun b37 => oB (AW.rd h26 m27 (m28 + m29 * 5 + 1 + 1 + 1 + 1)) fun v38 => vBool v38 fun b39 => EvQ P f_e0 [.agg (Array.mk [.string s31,
 .int .i64 n33, .int .i64 n35, .bool b37, .bool b39])] h26 fun v40 h41 => vStr v40 fun s42 => bC (bEq s42 (ByteArray.mk #[108, 101, 116])) (oB
 (AW.wr h41 (AW.next h23) 0 (.int .i64 1)) fun h43 => bC ((↑m8 : Int) == 1) (oB (AW.rd h43 (AW.next (AW.addVar (AW.addVar (AW.addVar h [.int .i64 n1,
 .bool b2, .slice p3 m4 m5]) [.int .i64 0, .int .i64 0, .string (ByteArray.mk #[]), .slice none 0 0, .slice none 0 0, .slice
 none 0 0]) [.int .i64 0, .string (ByteArray.mk #[]), .int .i64 0, .int .i64 0])) 0) fun v44 => vStr v44 fun s45 => oB (AW.rd h43 (AW.next
 (AW.addVar (AW.addVar (AW.addVar h [.int .i64 n1, .bool b2, .slice p3 m4 m5]) [.int .i64 0, .int .i64 0, .string (ByteArray.mk
 #[]), .slice none 0 0, .slice none 0 0, .slice none 0 0]) [.int .i64 0, .string (ByteArray.mk #[]), .int .i64 0, .int .i64
 0])) 1) fun v46 => vInt .i64 v46 fun n47 => oB (AW.rd h43 (AW.next (AW.addVar (AW.addVar (AW.addVar h [.int .i64 n1, .bool b2, .slice p3 m4 m5])
 [.int .i64 0, .int .i64 0, .string (ByteArray.mk #[]), .slice none 0 0, .slice none 0 0, .slice none 0 0]) [.int .i64 0,
 .string (ByteArray.mk #[]), .int .i64 0, .int .i64 0])) 2) fun v48 => vInt .i64 v48 fun n49 => oB (AW.rd h43 (AW.next (AW.addVar (AW.addVar
 (AW.addVar h [.int .i64 n1, .bool b2, .slice p3 m4 m5]) [.int .i64 0, .int .i64 0, .string (ByteArray.mk #[]), .slice none
 0 0, .slice none 0 0, .slice none 0 0]) [.int .i64 0, .string (ByteArray.mk #[]), .int .i64 0, .int .i64 0])) 3) fun v50 =>
 vBool v50 fun b51 => oB (AW.rd h43 (AW.next (AW.addVar (AW.addVar (AW.addVar h [.int .i64 n1, .bool b2, .slice p3 m4 m5]) [.int .i64 0,
 .int .i64 0, .string (ByteArray.mk #[]), .slice none 0 0, .slice none 0 0, .slice none 0 0]) [.int .i64 0, .string (ByteArray.mk
 #[]), .int .i64 0, .int .i64 0])) 4) fun v52 => vBool v52 fun b53 => EvQ P f_e3 [.int .i64 120, .agg (Array.mk [.string s45,
 .int .i64 n47, .int .i64 n49, .bool b51, .bool b53])] h43 fun v54 h55 => vTup v54 fun l56 => lC l56 fun v57 l58 => vAgg v57 fun l59 => lC l59
 fun v60 l61 => vInt .i64 v60 fun n62 => lC l61 fun v63 l64 => vInt .i64 v63 fun n65 => lC l64 fun v66 l67 => vStr v66 fun s68 => lC l67 fun v69 l70 => vSl v69 fun
 p71 m72 m73 => lC l70 fun v74 l75 => vSl v74 fun p76 m77 m78 => lC l75 fun v79 l80 => vSl v79 fun p81 m82 m83 => lN l80 (lC l58 fun v84 l85 => vAgg v84 fun l86 => lC l86 fun v87
 l88 => vInt .i64 v87 fun n89 => lC l88 fun v90 l91 => vStr v90 fun s92 => lC l91 fun v93 l94 => vInt .i64 v93 fun n95 => lC l94 fun v96 l97 => vInt .i64 v96
 fun n98 => lN l97 (lN l85 (oB (AW.wrL h55 (AW.next (AW.addVar h [.int .i64 n1, .bool b2, .slice p3 m4 m5])) 0 [.int .i64 n62, .int
 .i64 n65, .string s68, .slice p71 m72 m73, .slice p76 m77 m78, .slice p81 m82 m83]) fun h99 => oB (AW.wrL h99 (AW.next (AW.addVar (AW.addVar h
 [.int .i64 n1, .bool b2, .slice p3 m4 m5]) [.int .i64 0, .int .i64 0, .string (ByteArray.mk #[]), .slice none 0 0,
 .slice none 0 0, .slice none 0 0])) 0 [.int .i64 n89, .string s92, .int .i64 n95, .int .i64 n98]) fun h100 => oB (AW.rd h100
 (AW.next (AW.addVar h [.int .i64 n1, .bool b2, .slice p3 m4 m5])) 0) fun v101 => vInt .i64 v101 fun n102 => oB (AW.rd h100 (AW.next (AW.addVar h
 [.int .i64 n1, .bool b2, .slice p3 m4 m5])) 1) fun v103 => vInt .i64 v103 fun n104 => oB (AW.rd h100 (AW.next (AW.addVar h [.int .i64 n1,
 .bool b2, .slice p3 m4 m5])) 2) fun v105 => vStr v105 fun s106 => oB (AW.rd h100 (AW.next (AW.addVar h [.int .i64 n1, .bool b2, .slice p3 m4 m5]))
 3) fun v107 => vSl v107 fun p108 m109 m110 => oB (AW.rd h100 (AW.next (AW.addVar h [.int .i64 n1, .bool b2, .slice p3 m4 m5])) 4) fun v111 => vSl v111 fun
 p112 m113 m114 => oB (AW.rd h100 (AW.next (AW.addVar h [.int .i64 n1, .bool b2, .slice p3 m4 m5])) 5) fun v115 => vSl v115 fun p116 m117 m118 => oB (AW.rd
 h100 (AW.next (AW.addVar (AW.addVar h [.int .i64 n1, .bool b2, .slice p3 m4 m5]) [.int .i64 0, .int .i64 0, .string
 (ByteArray.mk #[]), .slice none 0 0, .slice none 0 0, .slice none 0 0])) 0) fun v119 => vInt .i64 v119 fun n120 => oB (AW.rd h100 (AW.next (AW.addVar
 (AW.addVar h [.int .i64 n1, .bool b2, .slice p3 m4 m5]) [.int .i64 0, .int .i64 0, .string (ByteArray.mk #[]), .slice none
 0 0, .slice none 0 0, .slice none 0 0])) 1) fun v121 => vStr v121 fun s122 => oB (AW.rd h100 (AW.next (AW.addVar (AW.addVar h [.int .i64 n1, .bool b2,
 .slice p3 m4 m5]) [.int .i64 0, .int .i64 0, .string (ByteArray.mk #[]), .slice none 0 0, .slice none 0 0, .slice none 0 0])) 2)
 fun v123 => vInt .i64 v123 fun n124 => oB (AW.rd h100 (AW.next (AW.addVar (AW.addVar h [.int .i64 n1, .bool b2, .slice p3 m4 m5]) [.int
 .i64 0, .int .i64 0, .string (ByteArray.mk #[]), .slice none 0 0, .slice none 0 0, .slice none 0 0])) 3) fun v125 => vInt .i64 v125
 fun n126 => Q (.tuple (Array.mk [.agg (Array.mk [.int .i64 n102, .int .i64 n104, .string s106, .slice p108 m109 m110, .slice p112
 m113 m114, .slice p116 m117 m118]), .agg (Array.mk [.int .i64 n120, .string s122, .int .i64 n124, .int .i64 n126])])) h100))))
 (aP p7 fun m127 m128 => oB (natIdx 1 m8) fun m129 => oB (AW.rd h43 m127 (m128 + m129 * 5)) fun v130 => vStr v130 fun s131 => oB (AW.rd h43 m127 (m128 + m129 * 5 + 1)) fun v132 =>
 vInt .i64 v132 fun n133 => oB (AW.rd h43 m127 (m128 + m129 * 5 + 1 + 1)) fun v134 => vInt .i64 v134 fun n135 => oB (AW.rd h43 m127 (m128 + m129 * 5 + 1 + 1 + 1))
 fun v136 => vBool v136 fun b137 => oB (AW.rd h43 m127 (m128 + m129 * 5 + 1 + 1 + 1 + 1)) fun v138 => vBool v138 fun b139 => EvQ P f_e0 [.agg (Array.mk [.string s131,
 .int .i64 n133, .int .i64 n135, .bool b137, .bool b139])] h43 fun v140 h141 => vStr v140 fun s142 => EvQ P f_dv [.string s142] h141 fun
 v143 h144 => vBool v143 fun b145 => bC (!b145) (aP p7 fun m146 m147 => oB (natIdx 1 m8) fun m148 => oB (AW.rd h144 m146 (m147 + m148 * 5)) fun v149 => vStr v149 fun s150 => oB
 (AW.rd h144 m146 (m147 + m148 * 5 + 1)) fun v151 => vInt .i64 v151 fun n152 => oB (AW.rd h144 m146 (m147 + m148 * 5 + 1 + 1)) fun v153 => vInt .i64 v153 fun n154 =>
 oB (AW.rd h144 m146 (m147 + m148 * 5 + 1 + 1 + 1)) fun v155 => vBool v155 fun b156 => oB (AW.rd h144 m146 (m147 + m148 * 5 + 1 + 1 + 1 + 1)) fun v157 => vBool v157 fun b158 =>
 EvQ P f_e3 [.int .i64 121, .agg (Array.mk [.string s150, .int .i64 n152, .int .i64 n154, .bool b156, .bool b158])] h144
 fun v159 h160 => vTup v159 fun l161 => lC l161 fun v162 l163 => vAgg v162 fun l164 => lC l164 fun v165 l166 => vInt .i64 v165 fun n167 => lC l166 fun v168 l169 => vInt
 .i64 v168 fun n170 => lC l169 fun v171 l172 => vStr v171 fun s173 => lC l172 fun v174 l175 => vSl v174 fun p176 m177 m178 => lC l175 fun v179 l180 => vSl v179 fun p181
 m182 m183 => lC l180 fun v184 l185 => vSl v184 fun p186 m187 m188 => lN l185 (lC l163 fun v189 l190 => vAgg v189 fun l191 => lC l191 fun v192 l193 => vInt .i64 v192 fun
 n194 => lC l193 fun v195 l196 => vStr v195 fun s197 => lC l196 fun v198 l199 => vInt .i64 v198 fun n200 => lC l199 fun v201 l202 => vInt .i64 v201 fun n203 => lN
 l202 (lN l190 (oB (AW.wrL h160 (AW.next (AW.addVar h [.int .i64 n1, .bool b2, .slice p3 m4 m5])) 0 [.int .i64 n167, .int .i64 n170,
 .string s173, .slice p176 m177 m178, .slice p181 m182 m183, .slice p186 m187 m188]) fun h204 => oB (AW.wrL h204 (AW.next (AW.addVar (AW.addVar h [.int
 .i64 n1, .bool b2, .slice p3 m4 m5]) [.int .i64 0, .int .i64 0, .string (ByteArray.mk #[]), .slice none 0 0, .slice none 0
 0, .slice none 0 0])) 0 [.int .i64 n194, .string s197, .int .i64 n200, .int .i64 n203]) fun h205 => oB (AW.rd h205 (AW.next
 (AW.addVar h [.int .i64 n1, .bool b2, .slice p3 m4 m5])) 0) fun v206 => vInt .i64 v206 fun n207 => oB (AW.rd h205 (AW.next (AW.addVar h [.int
 .i64 n1, .bool b2, .slice p3 m4 m5])) 1) fun v208 => vInt .i64 v208 fun n209 => oB (AW.rd h205 (AW.next (AW.addVar h [.int .i64 n1, .bool
 b2, .slice p3 m4 m5])) 2) fun v210 => vStr v210 fun s211 => oB (AW.rd h205 (AW.next (AW.addVar h [.int .i64 n1, .bool b2, .slice p3 m4 m5])) 3) fun
 v212 => vSl v212 fun p213 m214 m215 => oB (AW.rd h205 (AW.next (AW.addVar h [.int .i64 n1, .bool b2, .slice p3 m4 m5])) 4) fun v216 => vSl v216 fun p217
 m218 m219 => oB (AW.rd h205 (AW.next (AW.addVar h [.int .i64 n1, .bool b2, .slice p3 m4 m5])) 5) fun v220 => vSl v220 fun p221 m222 m223 => oB (AW.rd h205
 (AW.next (AW.addVar (AW.addVar h [.int .i64 n1, .bool b2, .slice p3 m4 m5]) [.int .i64 0, .int .i64 0, .string (ByteArray.mk
 #[]), .slice none 0 0, .slice none 0 0, .slice none 0 0])) 0) fun v224 => vInt .i64 v224 fun n225 => oB (AW.rd h205 (AW.next (AW.addVar (AW.addVar h
 [.int .i64 n1, .bool b2, .slice p3 m4 m5]) [.int .i64 0, .int .i64 0, .string (ByteArray.mk #[]), .slice none 0 0,
 .slice none 0 0, .slice none 0 0])) 1) fun v226 => vStr v226 fun s227 => oB (AW.rd h205 (AW.next (AW.addVar (AW.addVar h [.int .i64 n1, .bool b2,
 .slice p3 m4 m5]) [.int .i64 0, .int .i64 0, .string (ByteArray.mk #[]), .slice none 0 0, .slice none 0 0, .slice none 0 0])) 2)
 fun v228 => vInt .i64 v228 fun n229 => oB (AW.rd h205 (AW.next (AW.addVar (AW.addVar h [.int .i64 n1, .bool b2, .slice p3 m4 m5]) [.int
 .i64 0, .int .i64 0, .string (ByteArray.mk #[]), .slice none 0 0, .slice none 0 0, .slice none 0 0])) 3) fun v230 => vInt .i64 v230
 fun n231 => Q (.tuple (Array.mk [.agg (Array.mk [.int .i64 n207, .int .i64 n209, .string s211, .slice p213 m214 m215, .slice p217
 m218 m219, .slice p221 m222 m223]), .agg (Array.mk [.int .i64 n225, .string s227, .int .i64 n229, .int .i64 n231])])) h205))))
 (bC ((↑m8 : Int) == 2) (oB (AW.rd h144 (AW.next (AW.addVar (AW.addVar (AW.addVar h [.int .i64 n1, .bool b2, .slice p3 m4 m5]) [.int .i64 0,
 .int .i64 0, .string (ByteArray.mk #[]), .slice none 0 0, .slice none 0 0, .slice none 0 0]) [.int .i64 0, .string (ByteArray.mk
 #[]), .int .i64 0, .int .i64 0])) 0) fun v232 => vStr v232 fun s233 => oB (AW.rd h144 (AW.next (AW.addVar (AW.addVar (AW.addVar h [.int .i64
 n1, .bool b2, .slice p3 m4 m5]) [.int .i64 0, .int .i64 0, .string (ByteArray.mk #[]), .slice none 0 0, .slice none 0 0,
 .slice none 0 0]) [.int .i64 0, .string (ByteArray.mk #[]), .int .i64 0, .int .i64 0])) 1) fun v234 => vInt .i64 v234 fun
 n235 => oB (AW.rd h144 (AW.next (AW.addVar (AW.addVar (AW.addVar h [.int .i64 n1, .bool b2, .slice p3 m4 m5]) [.int .i64 0, .int
 .i64 0, .string (ByteArray.mk #[]), .slice none 0 0, .slice none 0 0, .slice none 0 0]) [.int .i64 0, .string (ByteArray.mk #[]),
 .int .i64 0, .int .i64 0])) 2) fun v236 => vInt .i64 v236 fun n237 => oB (AW.rd h144 (AW.next (AW.addVar (AW.addVar (AW.addVar h [.int
 .i64 n1, .bool b2, .slice p3 m4 m5]) [.int .i64 0, .int .i64 0, .string (ByteArray.mk #[]), .slice none 0 0, .slice none 0
 0, .slice none 0 0]) [.int .i64 0, .string (ByteArray.mk #[]), .int .i64 0, .int .i64 0])) 3) fun v238 => vBool v238 fun b239 => oB
 (AW.rd h144 (AW.next (AW.addVar (AW.addVar (AW.addVar h [.int .i64 n1, .bool b2, .slice p3 m4 m5]) [.int .i64 0, .int .i64 0,
 .string (ByteArray.mk #[]), .slice none 0 0, .slice none 0 0, .slice none 0 0]) [.int .i64 0, .string (ByteArray.mk #[]), .int
 .i64 0, .int .i64 0])) 4) fun v240 => vBool v240 fun b241 => EvQ P f_e3 [.int .i64 120, .agg (Array.mk [.string s233, .int
 .i64 n235, .int .i64 n237, .bool b239, .bool b241])] h144 fun v242 h243 => vTup v242 fun l244 => lC l244 fun v245 l246 => vAgg v245 fun l247 => lC
 l247 fun v248 l249 => vInt .i64 v248 fun n250 => lC l249 fun v251 l252 => vInt .i64 v251 fun n253 => lC l252 fun v254 l255 => vStr v254 fun s256 => lC l255 fun v257
 l258 => vSl v257 fun p259 m260 m261 => lC l258 fun v262 l263 => vSl v262 fun p264 m265 m266 => lC l263 fun v267 l268 => vSl v267 fun p269 m270 m271 => lN l268 (lC l246 fun v272
 l273 => vAgg v272 fun l274 => lC l274 fun v275 l276 => vInt .i64 v275 fun n277 => lC l276 fun v278 l279 => vStr v278 fun s280 => lC l279 fun v281 l282 => vInt .i64
 v281 fun n283 => lC l282 fun v284 l285 => vInt .i64 v284 fun n286 => lN l285 (lN l273 (oB (AW.wrL h243 (AW.next (AW.addVar h [.int .i64 n1, .bool b2,
 .slice p3 m4 m5])) 0 [.int .i64 n250, .int .i64 n253, .string s256, .slice p259 m260 m261, .slice p264 m265 m266, .slice p269
 m270 m271]) fun h287 => oB (AW.wrL h287 (AW.next (AW.addVar (AW.addVar h [.int .i64 n1, .bool b2, .slice p3 m4 m5]) [.int .i64 0, .int
 .i64 0, .string (ByteArray.mk #[]), .slice none 0 0, .slice none 0 0, .slice none 0 0])) 0 [.int .i64 n277, .string s280, .int
 .i64 n283, .int .i64 n286]) fun h288 => oB (AW.rd h288 (AW.next (AW.addVar h [.int .i64 n1, .bool b2, .slice p3 m4 m5])) 0) fun v289 =>
 vInt .i64 v289 fun n290 => oB (AW.rd h288 (AW.next (AW.addVar h [.int .i64 n1, .bool b2, .slice p3 m4 m5])) 1) fun v291 => vInt .i64 v291 fun
 n292 => oB (AW.rd h288 (AW.next (AW.addVar h [.int .i64 n1, .bool b2, .slice p3 m4 m5])) 2) fun v293 => vStr v293 fun s294 => oB (AW.rd h288 (AW.next
 (AW.addVar h [.int .i64 n1, .bool b2, .slice p3 m4 m5])) 3) fun v295 => vSl v295 fun p296 m297 m298 => oB (AW.rd h288 (AW.next (AW.addVar h [.int
 .i64 n1, .bool b2, .slice p3 m4 m5])) 4) fun v299 => vSl v299 fun p300 m301 m302 => oB (AW.rd h288 (AW.next (AW.addVar h [.int .i64 n1, .bool
 b2, .slice p3 m4 m5])) 5) fun v303 => vSl v303 fun p304 m305 m306 => oB (AW.rd h288 (AW.next (AW.addVar (AW.addVar h [.int .i64 n1, .bool b2, .slice p3
 m4 m5]) [.int .i64 0, .int .i64 0, .string (ByteArray.mk #[]), .slice none 0 0, .slice none 0 0, .slice none 0 0])) 0) fun v307 =>
 vInt .i64 v307 fun n308 => oB (AW.rd h288 (AW.next (AW.addVar (AW.addVar h [.int .i64 n1, .bool b2, .slice p3 m4 m5]) [.int .i64 0,
 .int .i64 0, .string (ByteArray.mk #[]), .slice none 0 0, .slice none 0 0, .slice none 0 0])) 1) fun v309 => vStr v309 fun s310 => oB (AW.rd h288
 (AW.next (AW.addVar (AW.addVar h [.int .i64 n1, .bool b2, .slice p3 m4 m5]) [.int .i64 0, .int .i64 0, .string (ByteArray.mk
 #[]), .slice none 0 0, .slice none 0 0, .slice none 0 0])) 2) fun v311 => vInt .i64 v311 fun n312 => oB (AW.rd h288 (AW.next (AW.addVar (AW.addVar h
 [.int .i64 n1, .bool b2, .slice p3 m4 m5]) [.int .i64 0, .int .i64 0, .string (ByteArray.mk #[]), .slice none 0 0,
 .slice none 0 0, .slice none 0 0])) 3) fun v313 => vInt .i64 v313 fun n314 => Q (.tuple (Array.mk [.agg (Array.mk [.int .i64 n290,
 .int .i64 n292, .string s294, .slice p296 m297 m298, .slice p300 m301 m302, .slice p304 m305 m306]), .agg (Array.mk [.int .i64
 n308, .string s310, .int .i64 n312, .int .i64 n314])])) h288)))) (aP p7 fun m315 m316 => oB (natIdx 2 m8) fun m317 => oB (AW.rd h144 m315 (m316 +
 m317 * 5 + 4)) fun v318 => vBool v318 fun b319 => bC (!b319) (aP p7 fun m320 m321 => oB (natIdx 2 m8) fun m322 => oB (AW.rd h144 m320 (m321 + m322 * 5)) fun v323 => vStr v323 fun
 s324 => oB (AW.rd h144 m320 (m321 + m322 * 5 + 1)) fun v325 => vInt .i64 v325 fun n326 => oB (AW.rd h144 m320 (m321 + m322 * 5 + 1 + 1)) fun v327 => vInt .i64 v327
 fun n328 => oB (AW.rd h144 m320 (m321 + m322 * 5 + 1 + 1 + 1)) fun v329 => vBool v329 fun b330 => oB (AW.rd h144 m320 (m321 + m322 * 5 + 1 + 1 + 1 + 1)) fun v331 => vBool v331
 fun b332 => EvQ P f_e3 [.int .i64 120, .agg (Array.mk [.string s324, .int .i64 n326, .int .i64 n328, .bool b330, .bool
 b332])] h144 fun v333 h334 => vTup v333 fun l335 => lC l335 fun v336 l337 => vAgg v336 fun l338 => lC l338 fun v339 l340 => vInt .i64 v339 fun n341 => lC l340 fun v342
 l343 => vInt .i64 v342 fun n344 => lC l343 fun v345 l346 => vStr v345 fun s347 => lC l346 fun v348 l349 => vSl v348 fun p350 m351 m352 => lC l349 fun v353 l354 => vSl v353
 fun p355 m356 m357 => lC l354 fun v358 l359 => vSl v358 fun p360 m361 m362 => lN l359 (lC l337 fun v363 l364 => vAgg v363 fun l365 => lC l365 fun v366 l367 => vInt .i64
 v366 fun n368 => lC l367 fun v369 l370 => vStr v369 fun s371 => lC l370 fun v372 l373 => vInt .i64 v372 fun n374 => lC l373 fun v375 l376 => vInt .i64 v375 fun n377
 => lN l376 (lN l364 (oB (AW.wrL h334 (AW.next (AW.addVar h [.int .i64 n1, .bool b2, .slice p3 m4 m5])) 0 [.int .i64 n341, .int .i64
 n344, .string s347, .slice p350 m351 m352, .slice p355 m356 m357, .slice p360 m361 m362]) fun h378 => oB (AW.wrL h378 (AW.next (AW.addVar (AW.addVar h
 [.int .i64 n1, .bool b2, .slice p3 m4 m5]) [.int .i64 0, .int .i64 0, .string (ByteArray.mk #[]), .slice none 0 0,
 .slice none 0 0, .slice none 0 0])) 0 [.int .i64 n368, .string s371, .int .i64 n374, .int .i64 n377]) fun h379 => oB (AW.rd
 h379 (AW.next (AW.addVar h [.int .i64 n1, .bool b2, .slice p3 m4 m5])) 0) fun v380 => vInt .i64 v380 fun n381 => oB (AW.rd h379 (AW.next (AW.addVar h
 [.int .i64 n1, .bool b2, .slice p3 m4 m5])) 1) fun v382 => vInt .i64 v382 fun n383 => oB (AW.rd h379 (AW.next (AW.addVar h [.int .i64 n1,
 .bool b2, .slice p3 m4 m5])) 2) fun v384 => vStr v384 fun s385 => oB (AW.rd h379 (AW.next (AW.addVar h [.int .i64 n1, .bool b2, .slice p3 m4 m5]))
 3) fun v386 => vSl v386 fun p387 m388 m389 => oB (AW.rd h379 (AW.next (AW.addVar h [.int .i64 n1, .bool b2, .slice p3 m4 m5])) 4) fun v390 => vSl v390 fun
 p391 m392 m393 => oB (AW.rd h379 (AW.next (AW.addVar h [.int .i64 n1, .bool b2, .slice p3 m4 m5])) 5) fun v394 => vSl v394 fun p395 m396 m397 => oB (AW.rd
 h379 (AW.next (AW.addVar (AW.addVar h [.int .i64 n1, .bool b2, .slice p3 m4 m5]) [.int .i64 0, .int .i64 0, .string
 (ByteArray.mk #[]), .slice none 0 0, .slice none 0 0, .slice none 0 0])) 0) fun v398 => vInt .i64 v398 fun n399 => oB (AW.rd h379 (AW.next (AW.addVar
 (AW.addVar h [.int .i64 n1, .bool b2, .slice p3 m4 m5]) [.int .i64 0, .int .i64 0, .string (ByteArray.mk #[]), .slice none
 0 0, .slice none 0 0, .slice none 0 0])) 1) fun v400 => vStr v400 fun s401 => oB (AW.rd h379 (AW.next (AW.addVar (AW.addVar h [.int .i64 n1, .bool b2,
 .slice p3 m4 m5]) [.int .i64 0, .int .i64 0, .string (ByteArray.mk #[]), .slice none 0 0, .slice none 0 0, .slice none 0 0])) 2)
 fun v402 => vInt .i64 v402 fun n403 => oB (AW.rd h379 (AW.next (AW.addVar (AW.addVar h [.int .i64 n1, .bool b2, .slice p3 m4 m5]) [.int
 .i64 0, .int .i64 0, .string (ByteArray.mk #[]), .slice none 0 0, .slice none 0 0, .slice none 0 0])) 3) fun v404 => vInt .i64 v404
 fun n405 => Q (.tuple (Array.mk [.agg (Array.mk [.int .i64 n381, .int .i64 n383, .string s385, .slice p387 m388 m389, .slice p391
 m392 m393, .slice p395 m396 m397]), .agg (Array.mk [.int .i64 n399, .string s401, .int .i64 n403, .int .i64 n405])])) h379))))
 (aP p7 fun m406 m407 => oB (natIdx 2 m8) fun m408 => oB (AW.rd h144 m406 (m407 + m408 * 5)) fun v409 => vStr v409 fun s410 => bC (!bEq s410 (ByteArray.mk #[61])) (aP p7 fun m411
 m412 => oB (natIdx 2 m8) fun m413 => oB (AW.rd h144 m411 (m412 + m413 * 5)) fun v414 => vStr v414 fun s415 => oB (AW.rd h144 m411 (m412 + m413 * 5 + 1)) fun v416 => vInt
 .i64 v416 fun n417 => oB (AW.rd h144 m411 (m412 + m413 * 5 + 1 + 1)) fun v418 => vInt .i64 v418 fun n419 => oB (AW.rd h144 m411 (m412 + m413 * 5 + 1 + 1 + 1)) fun
 v420 => vBool v420 fun b421 => oB (AW.rd h144 m411 (m412 + m413 * 5 + 1 + 1 + 1 + 1)) fun v422 => vBool v422 fun b423 => EvQ P f_e3 [.int .i64 120, .agg
 (Array.mk [.string s415, .int .i64 n417, .int .i64 n419, .bool b421, .bool b423])] h144 fun v424 h425 => vTup v424 fun l426 => lC l426 fun
 v427 l428 => vAgg v427 fun l429 => lC l429 fun v430 l431 => vInt .i64 v430 fun n432 => lC l431 fun v433 l434 => vInt .i64 v433 fun n435 => lC l434 fun v436 l437 =>
 vStr v436 fun s438 => lC l437 fun v439 l440 => vSl v439 fun p441 m442 m443 => lC l440 fun v444 l445 => vSl v444 fun p446 m447 m448 => lC l445 fun v449 l450 => vSl v449 fun p451
 m452 m453 => lN l450 (lC l428 fun v454 l455 => vAgg v454 fun l456 => lC l456 fun v457 l458 => vInt .i64 v457 fun n459 => lC l458 fun v460 l461 => vStr v460 fun s462 => lC
 l461 fun v463 l464 => vInt .i64 v463 fun n465 => lC l464 fun v466 l467 => vInt .i64 v466 fun n468 => lN l467 (lN l455 (oB (AW.wrL h425 (AW.next (AW.addVar h
 [.int .i64 n1, .bool b2, .slice p3 m4 m5])) 0 [.int .i64 n432, .int .i64 n435, .string s438, .slice p441 m442 m443,
 .slice p446 m447 m448, .slice p451 m452 m453]) fun h469 => oB (AW.wrL h469 (AW.next (AW.addVar (AW.addVar h [.int .i64 n1, .bool b2, .slice p3 m4
 m5]) [.int .i64 0, .int .i64 0, .string (ByteArray.mk #[]), .slice none 0 0, .slice none 0 0, .slice none 0 0])) 0 [.int
 .i64 n459, .string s462, .int .i64 n465, .int .i64 n468]) fun h470 => oB (AW.rd h470 (AW.next (AW.addVar h [.int .i64 n1,
 .bool b2, .slice p3 m4 m5])) 0) fun v471 => vInt .i64 v471 fun n472 => oB (AW.rd h470 (AW.next (AW.addVar h [.int .i64 n1, .bool b2, .slice
 p3 m4 m5])) 1) fun v473 => vInt .i64 v473 fun n474 => oB (AW.rd h470 (AW.next (AW.addVar h [.int .i64 n1, .bool b2, .slice p3 m4 m5])) 2) fun v475 =>
 vStr v475 fun s476 => oB (AW.rd h470 (AW.next (AW.addVar h [.int .i64 n1, .bool b2, .slice p3 m4 m5])) 3) fun v477 => vSl v477 fun p478 m479 m480 => oB
 (AW.rd h470 (AW.next (AW.addVar h [.int .i64 n1, .bool b2, .slice p3 m4 m5])) 4) fun v481 => vSl v481 fun p482 m483 m484 => oB (AW.rd h470 (AW.next
 (AW.addVar h [.int .i64 n1, .bool b2, .slice p3 m4 m5])) 5) fun v485 => vSl v485 fun p486 m487 m488 => oB (AW.rd h470 (AW.next (AW.addVar (AW.addVar h
 [.int .i64 n1, .bool b2, .slice p3 m4 m5]) [.int .i64 0, .int .i64 0, .string (ByteArray.mk #[]), .slice none 0 0,
 .slice none 0 0, .slice none 0 0])) 0) fun v489 => vInt .i64 v489 fun n490 => oB (AW.rd h470 (AW.next (AW.addVar (AW.addVar h [.int .i64 n1,
 .bool b2, .slice p3 m4 m5]) [.int .i64 0, .int .i64 0, .string (ByteArray.mk #[]), .slice none 0 0, .slice none 0 0, .slice
 none 0 0])) 1) fun v491 => vStr v491 fun s492 => oB (AW.rd h470 (AW.next (AW.addVar (AW.addVar h [.int .i64 n1, .bool b2, .slice p3 m4 m5]) [.int
 .i64 0, .int .i64 0, .string (ByteArray.mk #[]), .slice none 0 0, .slice none 0 0, .slice none 0 0])) 2) fun v493 => vInt .i64 v493
 fun n494 => oB (AW.rd h470 (AW.next (AW.addVar (AW.addVar h [.int .i64 n1, .bool b2, .slice p3 m4 m5]) [.int .i64 0, .int .i64 0,
 .string (ByteArray.mk #[]), .slice none 0 0, .slice none 0 0, .slice none 0 0])) 3) fun v495 => vInt .i64 v495 fun n496 => Q (.tuple (Array.mk
 [.agg (Array.mk [.int .i64 n472, .int .i64 n474, .string s476, .slice p478 m479 m480, .slice p482 m483 m484, .slice p486 m487
 m488]), .agg (Array.mk [.int .i64 n490, .string s492, .int .i64 n494, .int .i64 n496])])) h470)))) (aP p7 fun m497 m498 => oB
 (natIdx 1 m8) fun m499 => oB (AW.rd h144 m497 (m498 + m499 * 5)) fun v500 => vStr v500 fun s501 => oB (natBnd 3 m8) fun m502 => bC (Nat.ble m8 m9) (oB (shO p7 (m502 * 5)) fun
 p503 => oB (AW.wr h144 (AW.next h23) 2 (.string s501)) fun h504 => oB (AW.wr h504 (AW.next h23) 4 (.slice p503 (m8 - m502) (m9 - m502))) fun h505 => oB (natBnd 3 m8)
 fun m506 => bC (Nat.ble m8 m9) (oB (shO p7 (m506 * 5)) fun p507 => Value.slice p507 (m8 - m506) (m9 - m506) = .slice p503 (m8 - m502) (m9 - m502) ∧ unitAt P f_dy 34 [2, 3,
 6] [.pointer (some (Addr.mk (AW.next (AW.addVar h [.int .i64 n1, .bool b2, .slice p3 m4 m5])) 0 none)), .pointer (some (Addr.mk (AW.next
 (AW.addVar (AW.addVar h [.int .i64 n1, .bool b2, .slice p3 m4 m5]) [.int .i64 0, .int .i64 0, .string (ByteArray.mk #[]),
 .slice none 0 0, .slice none 0 0, .slice none 0 0])) 0 none)), .pointer (some ⟨(AW.next h23), 0, none⟩)] h505 Q) False) False)))))) (bC (bEq s42
 (ByteArray.mk #[105, 110, 99, 108, 117, 100, 101])) (oB (AW.wr h41 (AW.next h23) 0 (.int .i64 2)) fun h508 => bC ((↑m8 : Int) == 1) (oB (AW.rd h508 (AW.next
 (AW.addVar (AW.addVar (AW.addVar h [.int .i64 n1, .bool b2, .slice p3 m4 m5]) [.int .i64 0, .int .i64 0, .string (ByteArray.mk
 #[]), .slice none 0 0, .slice none 0 0, .slice none 0 0]) [.int .i64 0, .string (ByteArray.mk #[]), .int .i64 0, .int .i64
 0])) 0) fun v509 => vStr v509 fun s510 => oB (AW.rd h508 (AW.next (AW.addVar (AW.addVar (AW.addVar h [.int .i64 n1, .bool b2, .slice p3 m4 m5]) [.int
 .i64 0, .int .i64 0, .string (ByteArray.mk #[]), .slice none 0 0, .slice none 0 0, .slice none 0 0]) [.int .i64 0, .string
 (ByteArray.mk #[]), .int .i64 0, .int .i64 0])) 1) fun v511 => vInt .i64 v511 fun n512 => oB (AW.rd h508 (AW.next (AW.addVar (AW.addVar (AW.addVar
 h [.int .i64 n1, .bool b2, .slice p3 m4 m5]) [.int .i64 0, .int .i64 0, .string (ByteArray.mk #[]), .slice none 0 0,
 .slice none 0 0, .slice none 0 0]) [.int .i64 0, .string (ByteArray.mk #[]), .int .i64 0, .int .i64 0])) 2) fun v513 => vInt
 .i64 v513 fun n514 => oB (AW.rd h508 (AW.next (AW.addVar (AW.addVar (AW.addVar h [.int .i64 n1, .bool b2, .slice p3 m4 m5]) [.int .i64 0,
 .int .i64 0, .string (ByteArray.mk #[]), .slice none 0 0, .slice none 0 0, .slice none 0 0]) [.int .i64 0, .string (ByteArray.mk
 #[]), .int .i64 0, .int .i64 0])) 3) fun v515 => vBool v515 fun b516 => oB (AW.rd h508 (AW.next (AW.addVar (AW.addVar (AW.addVar h [.int .i64
 n1, .bool b2, .slice p3 m4 m5]) [.int .i64 0, .int .i64 0, .string (ByteArray.mk #[]), .slice none 0 0, .slice none 0 0,
 .slice none 0 0]) [.int .i64 0, .string (ByteArray.mk #[]), .int .i64 0, .int .i64 0])) 4) fun v517 => vBool v517 fun b518 => EvQ P
 f_e3 [.int .i64 120, .agg (Array.mk [.string s510, .int .i64 n512, .int .i64 n514, .bool b516, .bool b518])] h508 fun v519
 h520 => vTup v519 fun l521 => lC l521 fun v522 l523 => vAgg v522 fun l524 => lC l524 fun v525 l526 => vInt .i64 v525 fun n527 => lC l526 fun v528 l529 => vInt .i64
 v528 fun n530 => lC l529 fun v531 l532 => vStr v531 fun s533 => lC l532 fun v534 l535 => vSl v534 fun p536 m537 m538 => lC l535 fun v539 l540 => vSl v539 fun p541 m542 m543 => lC
 l540 fun v544 l545 => vSl v544 fun p546 m547 m548 => lN l545 (lC l523 fun v549 l550 => vAgg v549 fun l551 => lC l551 fun v552 l553 => vInt .i64 v552 fun n554 => lC l553
 fun v555 l556 => vStr v555 fun s557 => lC l556 fun v558 l559 => vInt .i64 v558 fun n560 => lC l559 fun v561 l562 => vInt .i64 v561 fun n563 => lN l562 (lN l550 (oB
 (AW.wrL h520 (AW.next (AW.addVar h [.int .i64 n1, .bool b2, .slice p3 m4 m5])) 0 [.int .i64 n527, .int .i64 n530, .string s533,
 .slice p536 m537 m538, .slice p541 m542 m543, .slice p546 m547 m548]) fun h564 => oB (AW.wrL h564 (AW.next (AW.addVar (AW.addVar h [.int .i64 n1,
 .bool b2, .slice p3 m4 m5]) [.int .i64 0, .int .i64 0, .string (ByteArray.mk #[]), .slice none 0 0, .slice none 0 0, .slice
 none 0 0])) 0 [.int .i64 n554, .string s557, .int .i64 n560, .int .i64 n563]) fun h565 => oB (AW.rd h565 (AW.next (AW.addVar h [.int
 .i64 n1, .bool b2, .slice p3 m4 m5])) 0) fun v566 => vInt .i64 v566 fun n567 => oB (AW.rd h565 (AW.next (AW.addVar h [.int .i64 n1, .bool
 b2, .slice p3 m4 m5])) 1) fun v568 => vInt .i64 v568 fun n569 => oB (AW.rd h565 (AW.next (AW.addVar h [.int .i64 n1, .bool b2, .slice p3 m4
 m5])) 2) fun v570 => vStr v570 fun s571 => oB (AW.rd h565 (AW.next (AW.addVar h [.int .i64 n1, .bool b2, .slice p3 m4 m5])) 3) fun v572 => vSl v572 fun p573
 m574 m575 => oB (AW.rd h565 (AW.next (AW.addVar h [.int .i64 n1, .bool b2, .slice p3 m4 m5])) 4) fun v576 => vSl v576 fun p577 m578 m579 => oB (AW.rd h565
 (AW.next (AW.addVar h [.int .i64 n1, .bool b2, .slice p3 m4 m5])) 5) fun v580 => vSl v580 fun p581 m582 m583 => oB (AW.rd h565 (AW.next (AW.addVar
 (AW.addVar h [.int .i64 n1, .bool b2, .slice p3 m4 m5]) [.int .i64 0, .int .i64 0, .string (ByteArray.mk #[]), .slice none
 0 0, .slice none 0 0, .slice none 0 0])) 0) fun v584 => vInt .i64 v584 fun n585 => oB (AW.rd h565 (AW.next (AW.addVar (AW.addVar h [.int .i64 n1,
 .bool b2, .slice p3 m4 m5]) [.int .i64 0, .int .i64 0, .string (ByteArray.mk #[]), .slice none 0 0, .slice none 0 0, .slice
 none 0 0])) 1) fun v586 => vStr v586 fun s587 => oB (AW.rd h565 (AW.next (AW.addVar (AW.addVar h [.int .i64 n1, .bool b2, .slice p3 m4 m5]) [.int
 .i64 0, .int .i64 0, .string (ByteArray.mk #[]), .slice none 0 0, .slice none 0 0, .slice none 0 0])) 2) fun v588 => vInt .i64 v588
 fun n589 => oB (AW.rd h565 (AW.next (AW.addVar (AW.addVar h [.int .i64 n1, .bool b2, .slice p3 m4 m5]) [.int .i64 0, .int .i64 0,
 .string (ByteArray.mk #[]), .slice none 0 0, .slice none 0 0, .slice none 0 0])) 3) fun v590 => vInt .i64 v590 fun n591 => Q (.tuple (Array.mk
 [.agg (Array.mk [.int .i64 n567, .int .i64 n569, .string s571, .slice p573 m574 m575, .slice p577 m578 m579, .slice p581 m582
 m583]), .agg (Array.mk [.int .i64 n585, .string s587, .int .i64 n589, .int .i64 n591])])) h565)))) (aP p7 fun m592 m593 => oB
 (natIdx 1 m8) fun m594 => oB (AW.rd h508 m592 (m593 + m594 * 5 + 4)) fun v595 => vBool v595 fun b596 => bC b596 (aP p7 fun m597 m598 => oB (natIdx 1 m8) fun m599 => oB (AW.rd
 h508 m597 (m598 + m599 * 5)) fun v600 => vStr v600 fun s601 => oB (AW.rd h508 m597 (m598 + m599 * 5 + 1)) fun v602 => vInt .i64 v602 fun n603 => oB (AW.rd h508 m597 (m598
 + m599 * 5 + 1 + 1)) fun v604 => vInt .i64 v604 fun n605 => oB (AW.rd h508 m597 (m598 + m599 * 5 + 1 + 1 + 1)) fun v606 => vBool v606 fun b607 => oB (AW.rd h508 m597 (m598
 + m599 * 5 + 1 + 1 + 1 + 1)) fun v608 => vBool v608 fun b609 => EvQ P f_e3 [.int .i64 120, .agg (Array.mk [.string s601, .int .i64 n603,
 .int .i64 n605, .bool b607, .bool b609])] h508 fun v610 h611 => vTup v610 fun l612 => lC l612 fun v613 l614 => vAgg v613 fun l615 => lC l615 fun v616 l617
 => vInt .i64 v616 fun n618 => lC l617 fun v619 l620 => vInt .i64 v619 fun n621 => lC l620 fun v622 l623 => vStr v622 fun s624 => lC l623 fun v625 l626 => vSl v625
 fun p627 m628 m629 => lC l626 fun v630 l631 => vSl v630 fun p632 m633 m634 => lC l631 fun v635 l636 => vSl v635 fun p637 m638 m639 => lN l636 (lC l614 fun v640 l641 => vAgg v640
 fun l642 => lC l642 fun v643 l644 => vInt .i64 v643 fun n645 => lC l644 fun v646 l647 => vStr v646 fun s648 => lC l647 fun v649 l650 => vInt .i64 v649 fun n651 =>
 lC l650 fun v652 l653 => vInt .i64 v652 fun n654 => lN l653 (lN l641 (oB (AW.wrL h611 (AW.next (AW.addVar h [.int .i64 n1, .bool b2, .slice p3 m4
 m5])) 0 [.int .i64 n618, .int .i64 n621, .string s624, .slice p627 m628 m629, .slice p632 m633 m634, .slice p637 m638 m639]) fun h655
 => oB (AW.wrL h655 (AW.next (AW.addVar (AW.addVar h [.int .i64 n1, .bool b2, .slice p3 m4 m5]) [.int .i64 0, .int .i64 0,
 .string (ByteArray.mk #[]), .slice none 0 0, .slice none 0 0, .slice none 0 0])) 0 [.int .i64 n645, .string s648, .int .i64 n651,
 .int .i64 n654]) fun h656 => oB (AW.rd h656 (AW.next (AW.addVar h [.int .i64 n1, .bool b2, .slice p3 m4 m5])) 0) fun v657 => vInt .i64
 v657 fun n658 => oB (AW.rd h656 (AW.next (AW.addVar h [.int .i64 n1, .bool b2, .slice p3 m4 m5])) 1) fun v659 => vInt .i64 v659 fun n660 => oB (AW.rd
 h656 (AW.next (AW.addVar h [.int .i64 n1, .bool b2, .slice p3 m4 m5])) 2) fun v661 => vStr v661 fun s662 => oB (AW.rd h656 (AW.next (AW.addVar h [.int
 .i64 n1, .bool b2, .slice p3 m4 m5])) 3) fun v663 => vSl v663 fun p664 m665 m666 => oB (AW.rd h656 (AW.next (AW.addVar h [.int .i64 n1, .bool
 b2, .slice p3 m4 m5])) 4) fun v667 => vSl v667 fun p668 m669 m670 => oB (AW.rd h656 (AW.next (AW.addVar h [.int .i64 n1, .bool b2, .slice p3 m4 m5]))
 5) fun v671 => vSl v671 fun p672 m673 m674 => oB (AW.rd h656 (AW.next (AW.addVar (AW.addVar h [.int .i64 n1, .bool b2, .slice p3 m4 m5]) [.int
 .i64 0, .int .i64 0, .string (ByteArray.mk #[]), .slice none 0 0, .slice none 0 0, .slice none 0 0])) 0) fun v675 => vInt .i64 v675
 fun n676 => oB (AW.rd h656 (AW.next (AW.addVar (AW.addVar h [.int .i64 n1, .bool b2, .slice p3 m4 m5]) [.int .i64 0, .int .i64 0,
 .string (ByteArray.mk #[]), .slice none 0 0, .slice none 0 0, .slice none 0 0])) 1) fun v677 => vStr v677 fun s678 => oB (AW.rd h656 (AW.next (AW.addVar
 (AW.addVar h [.int .i64 n1, .bool b2, .slice p3 m4 m5]) [.int .i64 0, .int .i64 0, .string (ByteArray.mk #[]), .slice none
 0 0, .slice none 0 0, .slice none 0 0])) 2) fun v679 => vInt .i64 v679 fun n680 => oB (AW.rd h656 (AW.next (AW.addVar (AW.addVar h [.int .i64 n1,
 .bool b2, .slice p3 m4 m5]) [.int .i64 0, .int .i64 0, .string (ByteArray.mk #[]), .slice none 0 0, .slice none 0 0, .slice
 none 0 0])) 3) fun v681 => vInt .i64 v681 fun n682 => Q (.tuple (Array.mk [.agg (Array.mk [.int .i64 n658, .int .i64 n660, .string
 s662, .slice p664 m665 m666, .slice p668 m669 m670, .slice p672 m673 m674]), .agg (Array.mk [.int .i64 n676, .string s678, .int
 .i64 n680, .int .i64 n682])])) h656)))) (bC (decide ((↑m8 : Int) > 2)) (aP p7 fun m683 m684 => oB (natIdx 2 m8) fun m685 => oB (AW.rd h508 m683 (m684 + m685 *
 5)) fun v686 => vStr v686 fun s687 => oB (AW.rd h508 m683 (m684 + m685 * 5 + 1)) fun v688 => vInt .i64 v688 fun n689 => oB (AW.rd h508 m683 (m684 + m685 * 5 + 1 + 1)) fun
 v690 => vInt .i64 v690 fun n691 => oB (AW.rd h508 m683 (m684 + m685 * 5 + 1 + 1 + 1)) fun v692 => vBool v692 fun b693 => oB (AW.rd h508 m683 (m684 + m685 * 5 + 1 + 1 + 1 +
 1)) fun v694 => vBool v694 fun b695 => EvQ P f_e3 [.int .i64 120, .agg (Array.mk [.string s687, .int .i64 n689, .int .i64 n691,
 .bool b693, .bool b695])] h508 fun v696 h697 => vTup v696 fun l698 => lC l698 fun v699 l700 => vAgg v699 fun l701 => lC l701 fun v702 l703 => vInt .i64 v702 fun
 n704 => lC l703 fun v705 l706 => vInt .i64 v705 fun n707 => lC l706 fun v708 l709 => vStr v708 fun s710 => lC l709 fun v711 l712 => vSl v711 fun p713 m714 m715 => lC l712
 fun v716 l717 => vSl v716 fun p718 m719 m720 => lC l717 fun v721 l722 => vSl v721 fun p723 m724 m725 => lN l722 (lC l700 fun v726 l727 => vAgg v726 fun l728 => lC l728 fun v729
 l730 => vInt .i64 v729 fun n731 => lC l730 fun v732 l733 => vStr v732 fun s734 => lC l733 fun v735 l736 => vInt .i64 v735 fun n737 => lC l736 fun v738 l739 => vInt
 .i64 v738 fun n740 => lN l739 (lN l727 (oB (AW.wrL h697 (AW.next (AW.addVar h [.int .i64 n1, .bool b2, .slice p3 m4 m5])) 0 [.int .i64
 n704, .int .i64 n707, .string s710, .slice p713 m714 m715, .slice p718 m719 m720, .slice p723 m724 m725]) fun h741 => oB (AW.wrL h741 (AW.next
 (AW.addVar (AW.addVar h [.int .i64 n1, .bool b2, .slice p3 m4 m5]) [.int .i64 0, .int .i64 0, .string (ByteArray.mk #[]),
 .slice none 0 0, .slice none 0 0, .slice none 0 0])) 0 [.int .i64 n731, .string s734, .int .i64 n737, .int .i64 n740]) fun
 h742 => oB (AW.rd h742 (AW.next (AW.addVar h [.int .i64 n1, .bool b2, .slice p3 m4 m5])) 0) fun v743 => vInt .i64 v743 fun n744 => oB (AW.rd h742
 (AW.next (AW.addVar h [.int .i64 n1, .bool b2, .slice p3 m4 m5])) 1) fun v745 => vInt .i64 v745 fun n746 => oB (AW.rd h742 (AW.next (AW.addVar h
 [.int .i64 n1, .bool b2, .slice p3 m4 m5])) 2) fun v747 => vStr v747 fun s748 => oB (AW.rd h742 (AW.next (AW.addVar h [.int .i64 n1, .bool
 b2, .slice p3 m4 m5])) 3) fun v749 => vSl v749 fun p750 m751 m752 => oB (AW.rd h742 (AW.next (AW.addVar h [.int .i64 n1, .bool b2, .slice p3 m4 m5]))
 4) fun v753 => vSl v753 fun p754 m755 m756 => oB (AW.rd h742 (AW.next (AW.addVar h [.int .i64 n1, .bool b2, .slice p3 m4 m5])) 5) fun v757 => vSl v757 fun
 p758 m759 m760 => oB (AW.rd h742 (AW.next (AW.addVar (AW.addVar h [.int .i64 n1, .bool b2, .slice p3 m4 m5]) [.int .i64 0, .int .i64
 0, .string (ByteArray.mk #[]), .slice none 0 0, .slice none 0 0, .slice none 0 0])) 0) fun v761 => vInt .i64 v761 fun n762 => oB (AW.rd h742 (AW.next
 (AW.addVar (AW.addVar h [.int .i64 n1, .bool b2, .slice p3 m4 m5]) [.int .i64 0, .int .i64 0, .string (ByteArray.mk #[]),
 .slice none 0 0, .slice none 0 0, .slice none 0 0])) 1) fun v763 => vStr v763 fun s764 => oB (AW.rd h742 (AW.next (AW.addVar (AW.addVar h [.int .i64
 n1, .bool b2, .slice p3 m4 m5]) [.int .i64 0, .int .i64 0, .string (ByteArray.mk #[]), .slice none 0 0, .slice none 0 0,
 .slice none 0 0])) 2) fun v765 => vInt .i64 v765 fun n766 => oB (AW.rd h742 (AW.next (AW.addVar (AW.addVar h [.int .i64 n1, .bool b2, .slice p3
 m4 m5]) [.int .i64 0, .int .i64 0, .string (ByteArray.mk #[]), .slice none 0 0, .slice none 0 0, .slice none 0 0])) 3) fun v767 =>
 vInt .i64 v767 fun n768 => Q (.tuple (Array.mk [.agg (Array.mk [.int .i64 n744, .int .i64 n746, .string s748, .slice p750 m751
 m752, .slice p754 m755 m756, .slice p758 m759 m760]), .agg (Array.mk [.int .i64 n762, .string s764, .int .i64 n766, .int
 .i64 n768])])) h742)))) (oB (natBnd 1 m8) fun m769 => bC (Nat.ble m8 m9) (oB (shO p7 (m769 * 5)) fun p770 => oB (AW.wr h508 (AW.next h23) 4 (.slice p770 (m8 - m769)
 (m9 - m769))) fun h771 => unitAt P f_dy 34 [2, 3, 6] [.pointer (some (Addr.mk (AW.next (AW.addVar h [.int .i64 n1, .bool b2, .slice p3 m4 m5])) 0
 none)), .pointer (some (Addr.mk (AW.next (AW.addVar (AW.addVar h [.int .i64 n1, .bool b2, .slice p3 m4 m5]) [.int .i64 0, .int
 .i64 0, .string (ByteArray.mk #[]), .slice none 0 0, .slice none 0 0, .slice none 0 0])) 0 none)), .pointer (some ⟨(AW.next h23), 0, none⟩)]
 h771 Q) False)))) (bC (bEq s42 (ByteArray.mk #[114, 117, 108, 101])) (oB (AW.wr h41 (AW.next h23) 0 (.int .i64 3)) fun h772 => EvQ P f_e1 [.slice p7 m8 m9] h772
 fun v773 h774 => vInt .i64 v773 fun n775 => bC (decide (n775 < 0)) (oB (AW.rd h774 (AW.next (AW.addVar (AW.addVar (AW.addVar h [.int .i64 n1, .bool b2,
 .slice p3 m4 m5]) [.int .i64 0, .int .i64 0, .string (ByteArray.mk #[]), .slice none 0 0, .slice none 0 0, .slice none 0 0])
 [.int .i64 0, .string (ByteArray.mk #[]), .int .i64 0, .int .i64 0])) 0) fun v776 => vStr v776 fun s777 => oB (AW.rd h774 (AW.next
 (AW.addVar (AW.addVar (AW.addVar h [.int .i64 n1, .bool b2, .slice p3 m4 m5]) [.int .i64 0, .int .i64 0, .string (ByteArray.mk
 #[]), .slice none 0 0, .slice none 0 0, .slice none 0 0]) [.int .i64 0, .string (ByteArray.mk #[]), .int .i64 0, .int .i64
 0])) 1) fun v778 => vInt .i64 v778 fun n779 => oB (AW.rd h774 (AW.next (AW.addVar (AW.addVar (AW.addVar h [.int .i64 n1, .bool b2, .slice p3 m4 m5])
 [.int .i64 0, .int .i64 0, .string (ByteArray.mk #[]), .slice none 0 0, .slice none 0 0, .slice none 0 0]) [.int .i64 0,
 .string (ByteArray.mk #[]), .int .i64 0, .int .i64 0])) 2) fun v780 => vInt .i64 v780 fun n781 => oB (AW.rd h774 (AW.next (AW.addVar
 (AW.addVar (AW.addVar h [.int .i64 n1, .bool b2, .slice p3 m4 m5]) [.int .i64 0, .int .i64 0, .string (ByteArray.mk #[]),
 .slice none 0 0, .slice none 0 0, .slice none 0 0]) [.int .i64 0, .string (ByteArray.mk #[]), .int .i64 0, .int .i64 0]))
 3) fun v782 => vBool v782 fun b783 => oB (AW.rd h774 (AW.next (AW.addVar (AW.addVar (AW.addVar h [.int .i64 n1, .bool b2, .slice p3 m4 m5]) [.int
 .i64 0, .int .i64 0, .string (ByteArray.mk #[]), .slice none 0 0, .slice none 0 0, .slice none 0 0]) [.int .i64 0, .string
 (ByteArray.mk #[]), .int .i64 0, .int .i64 0])) 4) fun v784 => vBool v784 fun b785 => EvQ P f_e3 [.int .i64 120, .agg (Array.mk
 [.string s777, .int .i64 n779, .int .i64 n781, .bool b783, .bool b785])] h774 fun v786 h787 => vTup v786 fun l788 => lC l788 fun v789 l790
 => vAgg v789 fun l791 => lC l791 fun v792 l793 => vInt .i64 v792 fun n794 => lC l793 fun v795 l796 => vInt .i64 v795 fun n797 => lC l796 fun v798 l799 => vStr v798
 fun s800 => lC l799 fun v801 l802 => vSl v801 fun p803 m804 m805 => lC l802 fun v806 l807 => vSl v806 fun p808 m809 m810 => lC l807 fun v811 l812 => vSl v811 fun p813 m814 m815
 => lN l812 (lC l790 fun v816 l817 => vAgg v816 fun l818 => lC l818 fun v819 l820 => vInt .i64 v819 fun n821 => lC l820 fun v822 l823 => vStr v822 fun s824 => lC l823 fun
 v825 l826 => vInt .i64 v825 fun n827 => lC l826 fun v828 l829 => vInt .i64 v828 fun n830 => lN l829 (lN l817 (oB (AW.wrL h787 (AW.next (AW.addVar h [.int
 .i64 n1, .bool b2, .slice p3 m4 m5])) 0 [.int .i64 n794, .int .i64 n797, .string s800, .slice p803 m804 m805, .slice p808
 m809 m810, .slice p813 m814 m815]) fun h831 => oB (AW.wrL h831 (AW.next (AW.addVar (AW.addVar h [.int .i64 n1, .bool b2, .slice p3 m4 m5]) [.int
 .i64 0, .int .i64 0, .string (ByteArray.mk #[]), .slice none 0 0, .slice none 0 0, .slice none 0 0])) 0 [.int .i64 n821,
 .string s824, .int .i64 n827, .int .i64 n830]) fun h832 => oB (AW.rd h832 (AW.next (AW.addVar h [.int .i64 n1, .bool b2, .slice
 p3 m4 m5])) 0) fun v833 => vInt .i64 v833 fun n834 => oB (AW.rd h832 (AW.next (AW.addVar h [.int .i64 n1, .bool b2, .slice p3 m4 m5])) 1) fun v835 =>
 vInt .i64 v835 fun n836 => oB (AW.rd h832 (AW.next (AW.addVar h [.int .i64 n1, .bool b2, .slice p3 m4 m5])) 2) fun v837 => vStr v837 fun s838 => oB
 (AW.rd h832 (AW.next (AW.addVar h [.int .i64 n1, .bool b2, .slice p3 m4 m5])) 3) fun v839 => vSl v839 fun p840 m841 m842 => oB (AW.rd h832 (AW.next
 (AW.addVar h [.int .i64 n1, .bool b2, .slice p3 m4 m5])) 4) fun v843 => vSl v843 fun p844 m845 m846 => oB (AW.rd h832 (AW.next (AW.addVar h [.int
 .i64 n1, .bool b2, .slice p3 m4 m5])) 5) fun v847 => vSl v847 fun p848 m849 m850 => oB (AW.rd h832 (AW.next (AW.addVar (AW.addVar h [.int .i64 n1,
 .bool b2, .slice p3 m4 m5]) [.int .i64 0, .int .i64 0, .string (ByteArray.mk #[]), .slice none 0 0, .slice none 0 0, .slice
 none 0 0])) 0) fun v851 => vInt .i64 v851 fun n852 => oB (AW.rd h832 (AW.next (AW.addVar (AW.addVar h [.int .i64 n1, .bool b2, .slice p3 m4 m5])
 [.int .i64 0, .int .i64 0, .string (ByteArray.mk #[]), .slice none 0 0, .slice none 0 0, .slice none 0 0])) 1) fun v853 => vStr v853
 fun s854 => oB (AW.rd h832 (AW.next (AW.addVar (AW.addVar h [.int .i64 n1, .bool b2, .slice p3 m4 m5]) [.int .i64 0, .int .i64 0,
 .string (ByteArray.mk #[]), .slice none 0 0, .slice none 0 0, .slice none 0 0])) 2) fun v855 => vInt .i64 v855 fun n856 => oB (AW.rd h832 (AW.next
 (AW.addVar (AW.addVar h [.int .i64 n1, .bool b2, .slice p3 m4 m5]) [.int .i64 0, .int .i64 0, .string (ByteArray.mk #[]),
 .slice none 0 0, .slice none 0 0, .slice none 0 0])) 3) fun v857 => vInt .i64 v857 fun n858 => Q (.tuple (Array.mk [.agg (Array.mk [.int
 .i64 n834, .int .i64 n836, .string s838, .slice p840 m841 m842, .slice p844 m845 m846, .slice p848 m849 m850]), .agg (Array.mk
 [.int .i64 n852, .string s854, .int .i64 n856, .int .i64 n858])])) h832)))) (bC (n775 == 1) (aP p7 fun m859 m860 => oB (natIdx n775 m8)
 fun m861 => oB (AW.rd h774 m859 (m860 + m861 * 5)) fun v862 => vStr v862 fun s863 => oB (AW.rd h774 m859 (m860 + m861 * 5 + 1)) fun v864 => vInt .i64 v864 fun n865 => oB
 (AW.rd h774 m859 (m860 + m861 * 5 + 1 + 1)) fun v866 => vInt .i64 v866 fun n867 => oB (AW.rd h774 m859 (m860 + m861 * 5 + 1 + 1 + 1)) fun v868 => vBool v868 fun b869 => oB
 (AW.rd h774 m859 (m860 + m861 * 5 + 1 + 1 + 1 + 1)) fun v870 => vBool v870 fun b871 => EvQ P f_e3 [.int .i64 120, .agg (Array.mk [.string s863, .int
 .i64 n865, .int .i64 n867, .bool b869, .bool b871])] h774 fun v872 h873 => vTup v872 fun l874 => lC l874 fun v875 l876 => vAgg v875 fun l877 => lC
 l877 fun v878 l879 => vInt .i64 v878 fun n880 => lC l879 fun v881 l882 => vInt .i64 v881 fun n883 => lC l882 fun v884 l885 => vStr v884 fun s886 => lC l885 fun v887
 l888 => vSl v887 fun p889 m890 m891 => lC l888 fun v892 l893 => vSl v892 fun p894 m895 m896 => lC l893 fun v897 l898 => vSl v897 fun p899 m900 m901 => lN l898 (lC l876 fun v902
 l903 => vAgg v902 fun l904 => lC l904 fun v905 l906 => vInt .i64 v905 fun n907 => lC l906 fun v908 l909 => vStr v908 fun s910 => lC l909 fun v911 l912 => vInt .i64
 v911 fun n913 => lC l912 fun v914 l915 => vInt .i64 v914 fun n916 => lN l915 (lN l903 (oB (AW.wrL h873 (AW.next (AW.addVar h [.int .i64 n1, .bool b2,
 .slice p3 m4 m5])) 0 [.int .i64 n880, .int .i64 n883, .string s886, .slice p889 m890 m891, .slice p894 m895 m896, .slice p899
 m900 m901]) fun h917 => oB (AW.wrL h917 (AW.next (AW.addVar (AW.addVar h [.int .i64 n1, .bool b2, .slice p3 m4 m5]) [.int .i64 0, .int
 .i64 0, .string (ByteArray.mk #[]), .slice none 0 0, .slice none 0 0, .slice none 0 0])) 0 [.int .i64 n907, .string s910, .int
 .i64 n913, .int .i64 n916]) fun h918 => oB (AW.rd h918 (AW.next (AW.addVar h [.int .i64 n1, .bool b2, .slice p3 m4 m5])) 0) fun v919 =>
 vInt .i64 v919 fun n920 => oB (AW.rd h918 (AW.next (AW.addVar h [.int .i64 n1, .bool b2, .slice p3 m4 m5])) 1) fun v921 => vInt .i64 v921 fun
 n922 => oB (AW.rd h918 (AW.next (AW.addVar h [.int .i64 n1, .bool b2, .slice p3 m4 m5])) 2) fun v923 => vStr v923 fun s924 => oB (AW.rd h918 (AW.next
 (AW.addVar h [.int .i64 n1, .bool b2, .slice p3 m4 m5])) 3) fun v925 => vSl v925 fun p926 m927 m928 => oB (AW.rd h918 (AW.next (AW.addVar h [.int
 .i64 n1, .bool b2, .slice p3 m4 m5])) 4) fun v929 => vSl v929 fun p930 m931 m932 => oB (AW.rd h918 (AW.next (AW.addVar h [.int .i64 n1, .bool
 b2, .slice p3 m4 m5])) 5) fun v933 => vSl v933 fun p934 m935 m936 => oB (AW.rd h918 (AW.next (AW.addVar (AW.addVar h [.int .i64 n1, .bool b2, .slice p3
 m4 m5]) [.int .i64 0, .int .i64 0, .string (ByteArray.mk #[]), .slice none 0 0, .slice none 0 0, .slice none 0 0])) 0) fun v937 =>
 vInt .i64 v937 fun n938 => oB (AW.rd h918 (AW.next (AW.addVar (AW.addVar h [.int .i64 n1, .bool b2, .slice p3 m4 m5]) [.int .i64 0,
 .int .i64 0, .string (ByteArray.mk #[]), .slice none 0 0, .slice none 0 0, .slice none 0 0])) 1) fun v939 => vStr v939 fun s940 => oB (AW.rd h918
 (AW.next (AW.addVar (AW.addVar h [.int .i64 n1, .bool b2, .slice p3 m4 m5]) [.int .i64 0, .int .i64 0, .string (ByteArray.mk
 #[]), .slice none 0 0, .slice none 0 0, .slice none 0 0])) 2) fun v941 => vInt .i64 v941 fun n942 => oB (AW.rd h918 (AW.next (AW.addVar (AW.addVar h
 [.int .i64 n1, .bool b2, .slice p3 m4 m5]) [.int .i64 0, .int .i64 0, .string (ByteArray.mk #[]), .slice none 0 0,
 .slice none 0 0, .slice none 0 0])) 3) fun v943 => vInt .i64 v943 fun n944 => Q (.tuple (Array.mk [.agg (Array.mk [.int .i64 n920,
 .int .i64 n922, .string s924, .slice p926 m927 m928, .slice p930 m931 m932, .slice p934 m935 m936]), .agg (Array.mk [.int .i64
 n938, .string s940, .int .i64 n942, .int .i64 n944])])) h918)))) (aP p7 fun m945 m946 => oB (natIdx n775 m8) fun m947 => oB (AW.rd h774 m945 (m946 +
 m947 * 5)) fun v948 => vStr v948 fun s949 => bC (!bEq s949 (ByteArray.mk #[58])) (aP p7 fun m950 m951 => oB (natIdx n775 m8) fun m952 => oB (AW.rd h774 m950 (m951 + m952 * 5))
 fun v953 => vStr v953 fun s954 => oB (AW.rd h774 m950 (m951 + m952 * 5 + 1)) fun v955 => vInt .i64 v955 fun n956 => oB (AW.rd h774 m950 (m951 + m952 * 5 + 1 + 1)) fun v957
 => vInt .i64 v957 fun n958 => oB (AW.rd h774 m950 (m951 + m952 * 5 + 1 + 1 + 1)) fun v959 => vBool v959 fun b960 => oB (AW.rd h774 m950 (m951 + m952 * 5 + 1 + 1 + 1 + 1))
 fun v961 => vBool v961 fun b962 => EvQ P f_e3 [.int .i64 120, .agg (Array.mk [.string s954, .int .i64 n956, .int .i64 n958,
 .bool b960, .bool b962])] h774 fun v963 h964 => vTup v963 fun l965 => lC l965 fun v966 l967 => vAgg v966 fun l968 => lC l968 fun v969 l970 => vInt .i64 v969 fun
 n971 => lC l970 fun v972 l973 => vInt .i64 v972 fun n974 => lC l973 fun v975 l976 => vStr v975 fun s977 => lC l976 fun v978 l979 => vSl v978 fun p980 m981 m982 => lC l979
 fun v983 l984 => vSl v983 fun p985 m986 m987 => lC l984 fun v988 l989 => vSl v988 fun p990 m991 m992 => lN l989 (lC l967 fun v993 l994 => vAgg v993 fun l995 => lC l995 fun v996
 l997 => vInt .i64 v996 fun n998 => lC l997 fun v999 l1000 => vStr v999 fun s1001 => lC l1000 fun v1002 l1003 => vInt .i64 v1002 fun n1004 => lC l1003 fun v1005
 l1006 => vInt .i64 v1005 fun n1007 => lN l1006 (lN l994 (oB (AW.wrL h964 (AW.next (AW.addVar h [.int .i64 n1, .bool b2, .slice p3 m4 m5])) 0
 [.int .i64 n971, .int .i64 n974, .string s977, .slice p980 m981 m982, .slice p985 m986 m987, .slice p990 m991 m992]) fun h1008 => oB
 (AW.wrL h1008 (AW.next (AW.addVar (AW.addVar h [.int .i64 n1, .bool b2, .slice p3 m4 m5]) [.int .i64 0, .int .i64 0, .string
 (ByteArray.mk #[]), .slice none 0 0, .slice none 0 0, .slice none 0 0])) 0 [.int .i64 n998, .string s1001, .int .i64 n1004, .int
 .i64 n1007]) fun h1009 => oB (AW.rd h1009 (AW.next (AW.addVar h [.int .i64 n1, .bool b2, .slice p3 m4 m5])) 0) fun v1010 => vInt .i64 v1010
 fun n1011 => oB (AW.rd h1009 (AW.next (AW.addVar h [.int .i64 n1, .bool b2, .slice p3 m4 m5])) 1) fun v1012 => vInt .i64 v1012 fun n1013 => oB (AW.rd
 h1009 (AW.next (AW.addVar h [.int .i64 n1, .bool b2, .slice p3 m4 m5])) 2) fun v1014 => vStr v1014 fun s1015 => oB (AW.rd h1009 (AW.next (AW.addVar h
 [.int .i64 n1, .bool b2, .slice p3 m4 m5])) 3) fun v1016 => vSl v1016 fun p1017 m1018 m1019 => oB (AW.rd h1009 (AW.next (AW.addVar h [.int .i64
 n1, .bool b2, .slice p3 m4 m5])) 4) fun v1020 => vSl v1020 fun p1021 m1022 m1023 => oB (AW.rd h1009 (AW.next (AW.addVar h [.int .i64 n1, .bool b2,
 .slice p3 m4 m5])) 5) fun v1024 => vSl v1024 fun p1025 m1026 m1027 => oB (AW.rd h1009 (AW.next (AW.addVar (AW.addVar h [.int .i64 n1, .bool b2, .slice
 p3 m4 m5]) [.int .i64 0, .int .i64 0, .string (ByteArray.mk #[]), .slice none 0 0, .slice none 0 0, .slice none 0 0])) 0) fun v1028 =>
 vInt .i64 v1028 fun n1029 => oB (AW.rd h1009 (AW.next (AW.addVar (AW.addVar h [.int .i64 n1, .bool b2, .slice p3 m4 m5]) [.int .i64 0,
 .int .i64 0, .string (ByteArray.mk #[]), .slice none 0 0, .slice none 0 0, .slice none 0 0])) 1) fun v1030 => vStr v1030 fun s1031 => oB (AW.rd
 h1009 (AW.next (AW.addVar (AW.addVar h [.int .i64 n1, .bool b2, .slice p3 m4 m5]) [.int .i64 0, .int .i64 0, .string
 (ByteArray.mk #[]), .slice none 0 0, .slice none 0 0, .slice none 0 0])) 2) fun v1032 => vInt .i64 v1032 fun n1033 => oB (AW.rd h1009 (AW.next (AW.addVar
 (AW.addVar h [.int .i64 n1, .bool b2, .slice p3 m4 m5]) [.int .i64 0, .int .i64 0, .string (ByteArray.mk #[]), .slice none
 0 0, .slice none 0 0, .slice none 0 0])) 3) fun v1034 => vInt .i64 v1034 fun n1035 => Q (.tuple (Array.mk [.agg (Array.mk [.int .i64 n1011,
 .int .i64 n1013, .string s1015, .slice p1017 m1018 m1019, .slice p1021 m1022 m1023, .slice p1025 m1026 m1027]), .agg (Array.mk [.int
 .i64 n1029, .string s1031, .int .i64 n1033, .int .i64 n1035])])) h1009)))) (oB (natBnd n775 m9) fun m1036 => oB (natBnd 1 m1036) fun m1037 =>
 bC (Nat.ble m1036 m9) (oB (shO p7 (m1037 * 5)) fun p1038 => oB (natBnd (IntKind.wrap .i64 (n775 + 1)) m8) fun m1039 => bC (Nat.ble m8 m9) (oB (shO p7 (m1039 * 5)) fun
 p1040 => oB (AW.wr h774 (AW.next h23) 3 (.slice p1038 (m1036 - m1037) (m9 - m1037))) fun h1041 => oB (AW.wr h1041 (AW.next h23) 4 (.slice p1040 (m8 - m1039) (m9 -
 m1039))) fun h1042 => oB (natBnd (IntKind.wrap .i64 (n775 + 1)) m8) fun m1043 => bC (Nat.ble m8 m9) (oB (shO p7 (m1043 * 5)) fun p1044 => Value.slice p1044 (m8 - m1043)
 (m9 - m1043) = .slice p1040 (m8 - m1039) (m9 - m1039) ∧ unitAt P f_dy 34 [2, 3, 6] [.pointer (some (Addr.mk (AW.next (AW.addVar h [.int .i64 n1, .bool
 b2, .slice p3 m4 m5])) 0 none)), .pointer (some (Addr.mk (AW.next (AW.addVar (AW.addVar h [.int .i64 n1, .bool b2, .slice p3 m4 m5]) [.int
 .i64 0, .int .i64 0, .string (ByteArray.mk #[]), .slice none 0 0, .slice none 0 0, .slice none 0 0])) 0 none)), .pointer (some
 ⟨(AW.next h23), 0, none⟩)] h1042 Q) False) False) False)))) (aP p7 fun m1045 m1046 => oB (natIdx 0 m8) fun m1047 => oB (AW.rd h41 m1045 (m1046 + m1047 * 5)) fun v1048 =>
 vStr v1048 fun s1049 => oB (AW.rd h41 m1045 (m1046 + m1047 * 5 + 1)) fun v1050 => vInt .i64 v1050 fun n1051 => oB (AW.rd h41 m1045 (m1046 + m1047 * 5 + 1 + 1)) fun v1052
 => vInt .i64 v1052 fun n1053 => oB (AW.rd h41 m1045 (m1046 + m1047 * 5 + 1 + 1 + 1)) fun v1054 => vBool v1054 fun b1055 => oB (AW.rd h41 m1045 (m1046 + m1047 * 5 + 1 + 1 +
 1 + 1)) fun v1056 => vBool v1056 fun b1057 => EvQ P f_e3 [.int .i64 120, .agg (Array.mk [.string s1049, .int .i64 n1051, .int .i64
 n1053, .bool b1055, .bool b1057])] h41 fun v1058 h1059 => vTup v1058 fun l1060 => lC l1060 fun v1061 l1062 => vAgg v1061 fun l1063 => lC l1063 fun v1064 l1065 => vInt
 .i64 v1064 fun n1066 => lC l1065 fun v1067 l1068 => vInt .i64 v1067 fun n1069 => lC l1068 fun v1070 l1071 => vStr v1070 fun s1072 => lC l1071 fun v1073 l1074 => vSl
 v1073 fun p1075 m1076 m1077 => lC l1074 fun v1078 l1079 => vSl v1078 fun p1080 m1081 m1082 => lC l1079 fun v1083 l1084 => vSl v1083 fun p1085 m1086 m1087 => lN l1084 (lC l1062
 fun v1088 l1089 => vAgg v1088 fun l1090 => lC l1090 fun v1091 l1092 => vInt .i64 v1091 fun n1093 => lC l1092 fun v1094 l1095 => vStr v1094 fun s1096 => lC l1095 fun v1097
 l1098 => vInt .i64 v1097 fun n1099 => lC l1098 fun v1100 l1101 => vInt .i64 v1100 fun n1102 => lN l1101 (lN l1089 (oB (AW.wrL h1059 (AW.next (AW.addVar h [.int
 .i64 n1, .bool b2, .slice p3 m4 m5])) 0 [.int .i64 n1066, .int .i64 n1069, .string s1072, .slice p1075 m1076 m1077, .slice
 p1080 m1081 m1082, .slice p1085 m1086 m1087]) fun h1103 => oB (AW.wrL h1103 (AW.next (AW.addVar (AW.addVar h [.int .i64 n1, .bool b2, .slice p3 m4 m5])
 [.int .i64 0, .int .i64 0, .string (ByteArray.mk #[]), .slice none 0 0, .slice none 0 0, .slice none 0 0])) 0 [.int .i64
 n1093, .string s1096, .int .i64 n1099, .int .i64 n1102]) fun h1104 => oB (AW.rd h1104 (AW.next (AW.addVar h [.int .i64 n1, .bool b2,
 .slice p3 m4 m5])) 0) fun v1105 => vInt .i64 v1105 fun n1106 => oB (AW.rd h1104 (AW.next (AW.addVar h [.int .i64 n1, .bool b2, .slice p3 m4
 m5])) 1) fun v1107 => vInt .i64 v1107 fun n1108 => oB (AW.rd h1104 (AW.next (AW.addVar h [.int .i64 n1, .bool b2, .slice p3 m4 m5])) 2) fun v1109 =>
 vStr v1109 fun s1110 => oB (AW.rd h1104 (AW.next (AW.addVar h [.int .i64 n1, .bool b2, .slice p3 m4 m5])) 3) fun v1111 => vSl v1111 fun p1112 m1113 m1114 =>
 oB (AW.rd h1104 (AW.next (AW.addVar h [.int .i64 n1, .bool b2, .slice p3 m4 m5])) 4) fun v1115 => vSl v1115 fun p1116 m1117 m1118 => oB (AW.rd h1104
 (AW.next (AW.addVar h [.int .i64 n1, .bool b2, .slice p3 m4 m5])) 5) fun v1119 => vSl v1119 fun p1120 m1121 m1122 => oB (AW.rd h1104 (AW.next (AW.addVar
 (AW.addVar h [.int .i64 n1, .bool b2, .slice p3 m4 m5]) [.int .i64 0, .int .i64 0, .string (ByteArray.mk #[]), .slice none
 0 0, .slice none 0 0, .slice none 0 0])) 0) fun v1123 => vInt .i64 v1123 fun n1124 => oB (AW.rd h1104 (AW.next (AW.addVar (AW.addVar h [.int .i64 n1,
 .bool b2, .slice p3 m4 m5]) [.int .i64 0, .int .i64 0, .string (ByteArray.mk #[]), .slice none 0 0, .slice none 0 0, .slice
 none 0 0])) 1) fun v1125 => vStr v1125 fun s1126 => oB (AW.rd h1104 (AW.next (AW.addVar (AW.addVar h [.int .i64 n1, .bool b2, .slice p3 m4 m5]) [.int
 .i64 0, .int .i64 0, .string (ByteArray.mk #[]), .slice none 0 0, .slice none 0 0, .slice none 0 0])) 2) fun v1127 => vInt .i64
 v1127 fun n1128 => oB (AW.rd h1104 (AW.next (AW.addVar (AW.addVar h [.int .i64 n1, .bool b2, .slice p3 m4 m5]) [.int .i64 0, .int
 .i64 0, .string (ByteArray.mk #[]), .slice none 0 0, .slice none 0 0, .slice none 0 0])) 3) fun v1129 => vInt .i64 v1129 fun n1130 => Q
 (.tuple (Array.mk [.agg (Array.mk [.int .i64 n1106, .int .i64 n1108, .string s1110, .slice p1112 m1113 m1114, .slice p1116 m1117
 m1118, .slice p1120 m1121 m1122]), .agg (Array.mk [.int .i64 n1124, .string s1126, .int .i64 n1128, .int .i64 n1130])]))
 h1104))))))) : EvQ P f_dy [.agg (Array.mk [.int .i64 n1, .bool b2, .slice p3 m4 m5])] h Q := fo [(34,[2,3,6])] H (by kernel_rfl)
theorem r_dz {m1 m2 m3 : Nat} (H : oB (AW.rd h m3 4) fun v4 => vSl v4 fun p5 m6 m7 => EvQ P f_e1 [.slice p5 m6 m7] h fun
 v8 h9 => vInt .i64 v8 fun n10 => bC (decide (n10 ≥ 0)) (oB (AW.rd h9 m3 4) fun v11 => vSl v11 fun p12 m13 m14 => aP p12 fun m15 m16 => oB (natIdx n10 m13) fun m17 => oB
 (AW.rd h9 m15 (m16 + m17 * 5)) fun v18 => vStr v18 fun s19 => oB (AW.rd h9 m15 (m16 + m17 * 5 + 1)) fun v20 => vInt .i64 v20 fun n21 => oB (AW.rd h9 m15 (m16 + m17 * 5 + 1
 + 1)) fun v22 => vInt .i64 v22 fun n23 => oB (AW.rd h9 m15 (m16 + m17 * 5 + 1 + 1 + 1)) fun v24 => vBool v24 fun b25 => oB (AW.rd h9 m15 (m16 + m17 * 5 + 1 + 1 + 1 + 1))
 fun v26 => vBool v26 fun b27 => EvQ P f_e3 [.int .i64 120, .agg (Array.mk [.string s19, .int .i64 n21, .int .i64 n23, .bool
 b25, .bool b27])] h9 fun v28 h29 => vTup v28 fun l30 => lC l30 fun v31 l32 => vAgg v31 fun l33 => lC l33 fun v34 l35 => vInt .i64 v34 fun n36 => lC l35 fun v37 l38 =>
 vInt .i64 v37 fun n39 => lC l38 fun v40 l41 => vStr v40 fun s42 => lC l41 fun v43 l44 => vSl v43 fun p45 m46 m47 => lC l44 fun v48 l49 => vSl v48 fun p50 m51 m52 => lC l49
 fun v53 l54 => vSl v53 fun p55 m56 m57 => lN l54 (lC l32 fun v58 l59 => vAgg v58 fun l60 => lC l60 fun v61 l62 => vInt .i64 v61 fun n63 => lC l62 fun v64 l65 => vStr v64
 fun s66 => lC l65 fun v67 l68 => vInt .i64 v67 fun n69 => lC l68 fun v70 l71 => vInt .i64 v70 fun n72 => lN l71 (lN l59 (oB (AW.wrL h29 m1 0 [.int .i64
 n36, .int .i64 n39, .string s42, .slice p45 m46 m47, .slice p50 m51 m52, .slice p55 m56 m57]) fun h73 => oB (AW.wrL h73 m2 0 [.int
 .i64 n63, .string s66, .int .i64 n69, .int .i64 n72]) fun h74 => oB (AW.rd h74 m1 0) fun v75 => vInt .i64 v75 fun n76 => oB (AW.rd h74
 m1 1) fun v77 => vInt .i64 v77 fun n78 => oB (AW.rd h74 m1 2) fun v79 => vStr v79 fun s80 => oB (AW.rd h74 m1 3) fun v81 => vSl v81 fun p82 m83 m84 => oB (AW.rd h74 m1 4)
 fun v85 => vSl v85 fun p86 m87 m88 => oB (AW.rd h74 m1 5) fun v89 => vSl v89 fun p90 m91 m92 => oB (AW.rd h74 m2 0) fun v93 => vInt .i64 v93 fun n94 => oB (AW.rd h74 m2 1)
 fun v95 => vStr v95 fun s96 => oB (AW.rd h74 m2 2) fun v97 => vInt .i64 v97 fun n98 => oB (AW.rd h74 m2 3) fun v99 => vInt .i64 v99 fun n100 => Q (.tuple
 (Array.mk [.agg (Array.mk [.int .i64 n76, .int .i64 n78, .string s80, .slice p82 m83 m84, .slice p86 m87 m88, .slice p90 m91
 m92]), .agg (Array.mk [.int .i64 n94, .string s96, .int .i64 n98, .int .i64 n100])])) h74)))) (oB (AW.rd h9 m3 3) fun v101 => vSl
 v101 fun p102 m103 m104 => EvQ P f_e5 [.slice p102 m103 m104] h9 fun v105 h106 => vSl v105 fun p107 m108 m109 => oB (AW.rd h106 m3 4) fun v110 => vSl v110 fun p111 m112 m113
 => EvQ P f_e5 [.slice p111 m112 m113] h106 fun v114 h115 => vSl v114 fun p116 m117 m118 => oB (AW.wr h115 m3 3 (.slice p107 m108 m109)) fun h119 => oB (AW.wr h119 m3 4
 (.slice p116 m117 m118)) fun h120 => oB (AW.rd h9 m3 4) fun v121 => vSl v121 fun p122 m123 m124 => Value.slice p122 m123 m124 = .slice p111 m112 m113 ∧ oB (AW.rd h120
 m3 0) fun v125 => vInt .i64 v125 fun n126 => oB (AW.rd h120 m3 1) fun v127 => vInt .i64 v127 fun n128 => oB (AW.rd h120 m3 2) fun v129 => vStr v129 fun s130 => oB
 (AW.rd h120 m3 3) fun v131 => vSl v131 fun p132 m133 m134 => oB (AW.rd h120 m3 4) fun v135 => vSl v135 fun p136 m137 m138 => oB (AW.rd h120 m3 5) fun v139 => vSl v139 fun p140
 m141 m142 => oB (AW.wrL h120 m1 0 [.int .i64 n126, .int .i64 n128, .string s130, .slice p132 m133 m134, .slice p136 m137 m138, .slice
 p140 m141 m142]) fun h143 => oB (AW.wrL h143 m2 0 [.int .i64 0, .string (ByteArray.mk #[]), .int .i64 0, .int .i64 0]) fun h144 => oB
 (AW.rd h144 m1 0) fun v145 => vInt .i64 v145 fun n146 => oB (AW.rd h144 m1 1) fun v147 => vInt .i64 v147 fun n148 => oB (AW.rd h144 m1 2) fun v149 => vStr v149 fun
 s150 => oB (AW.rd h144 m1 3) fun v151 => vSl v151 fun p152 m153 m154 => oB (AW.rd h144 m1 4) fun v155 => vSl v155 fun p156 m157 m158 => oB (AW.rd h144 m1 5) fun v159 => vSl v159
 fun p160 m161 m162 => oB (AW.rd h144 m2 0) fun v163 => vInt .i64 v163 fun n164 => oB (AW.rd h144 m2 1) fun v165 => vStr v165 fun s166 => oB (AW.rd h144 m2 2) fun v167 =>
 vInt .i64 v167 fun n168 => oB (AW.rd h144 m2 3) fun v169 => vInt .i64 v169 fun n170 => Q (.tuple (Array.mk [.agg (Array.mk [.int .i64 n146,
 .int .i64 n148, .string s150, .slice p152 m153 m154, .slice p156 m157 m158, .slice p160 m161 m162]), .agg (Array.mk [.int .i64
 n164, .string s166, .int .i64 n168, .int .i64 n170])])) h144)) : unitAt P f_dy 34 [2, 3, 6] [.pointer (some ⟨m1, 0, none⟩), .pointer
 (some ⟨m2, 0, none⟩), .pointer (some ⟨m3, 0, none⟩)] h Q := uo [(34,[2,3,6])] H (by kernel_rfl)
theorem r_cf {p1 : Option Addr} {n2 : Int} {s3 : ByteArray} {n4 n5 : Int} {b6 b7 : Bool} (H : aP p1 fun m8 m9 => oB (AW.rd
 (AW.addVar h [.string s3, .int .i64 n4, .int .i64 n5, .bool b6, .bool b7]) m8 (m9 + 5)) fun v10 => vSl v10 fun p11 m12 m13 => aP p1 fun m14
 m15 => oB (AW.rd (AW.addVar h [.string s3, .int .i64 n4, .int .i64 n5, .bool b6, .bool b7]) m14 (m15 + 5)) fun v16 => vSl v16 fun p17 m18
 m19 => aP p11 fun m20 m21 => oB (natIdx (IntKind.wrap .i64 ((↑m18 : Int) - 1)) m12) fun m22 => oB (AW.rd (AW.addVar h [.string s3, .int .i64 n4, .int
 .i64 n5, .bool b6, .bool b7]) m20 (m21 + m22 * 1)) fun v23 => vStr v23 fun s24 => oB (AW.rd (AW.addVar h [.string s3, .int .i64 n4, .int
 .i64 n5, .bool b6, .bool b7]) (AW.next h) 1) fun v25 => vInt .i64 v25 fun n26 => oB (AW.rd (AW.addVar h [.string s3, .int .i64 n4,
 .int .i64 n5, .bool b6, .bool b7]) (AW.next h) 2) fun v27 => vInt .i64 v27 fun n28 => aP p1 fun m29 m30 => oB (AW.wrL (AW.addVar h [.string s3,
 .int .i64 n4, .int .i64 n5, .bool b6, .bool b7]) m29 (m30 + 6) [.int .i64 n2, .string s24, .int .i64 n26, .int
 .i64 n28]) fun h31 => Q (.bool false) h31) : EvQ P f_cf [.pointer p1, .int .i64 n2, .agg (Array.mk [.string s3, .int .i64 n4,
 .int .i64 n5, .bool b6, .bool b7])] h Q := fo [] H (by kernel_rfl)
theorem r_d6 {p1 : Option Addr} (H : EvQ P f_d8 [.pointer p1] h fun v2 h3 => vTup v2 fun l4 => lC l4 fun v5 l6 => vInt .u8 v5 fun n7
 => lC l6 fun v8 l9 => vInt .i64 v8 fun n10 => lN l9 (aP p1 fun m11 m12 => oB (AW.rd h3 m11 (m12 + 3)) fun v13 => vInt .i64 v13 fun n14 => aP p1 fun m15 m16 => oB
 (AW.wr h3 m15 (m16 + 3) (.int .i64 (IntKind.wrap .i64 (n14 + n10)))) fun h17 => bC (decide (n10 > 0)) (aP p1 fun m18 m19 => oB (AW.rd h17 m18 m19) fun v20 =>
 vStr v20 fun s21 => aP p1 fun m22 m23 => oB (AW.rd h17 m22 (m23 + 1)) fun v24 => vInt .i64 v24 fun n25 => oB (natIdx (IntKind.wrap .i64 (IntKind.wrap .i64
 (n25 + n10) - 1)) (ByteArray.size s21)) fun m26 => oB (bAt s21 m26) fun n27 => bC (n27 == 10) (aP p1 fun m28 m29 => oB (AW.rd h17 m28 (m29 + 2)) fun v30 => vInt .i64 v30
 fun n31 => aP p1 fun m32 m33 => oB (AW.wr h17 m32 (m33 + 2) (.int .i64 (IntKind.wrap .i64 (n31 + 1)))) fun h34 => aP p1 fun m35 m36 => oB (AW.wr h34 m35 (m36 +
 3) (.int .i64 0)) fun h37 => unitAt P f_d6 4 [0, 3] [.pointer p1, .int .i64 n10] h37 Q) (unitAt P f_d6 4 [0, 3] [.pointer p1, .int
 .i64 n10] h17 Q)) (unitAt P f_d6 4 [0, 3] [.pointer p1, .int .i64 n10] h17 Q))) : EvQ P f_d6 [.pointer p1] h Q := fo [(4,[0,3])] H (by kernel_rfl)
theorem r_d7 {p1 : Option Addr} {n2 : Int} (H : aP p1 fun m3 m4 => oB (AW.rd h m3 (m4 + 1)) fun v5 => vInt .i64 v5 fun n6 => aP p1 fun
 m7 m8 => oB (AW.wr h m7 (m8 + 1) (.int .i64 (IntKind.wrap .i64 (n6 + n2)))) fun h9 => Q (.tuple (Array.mk [])) h9) : unitAt P f_d6 4 [0, 3] [.pointer
 p1, .int .i64 n2] h Q := uo [(4,[0,3])] H (by kernel_rfl)
theorem r_ea {p1 : Option Addr} {m2 m3 : Nat} {s4 : ByteArray} (H : unitAt P f_ea 2 [0, 1, 7, 8] [.slice p1 m2 m3, .string
 s4, .int .i64 (↑m2 : Int), .int .i64 0] h Q) : EvQ P f_ea [.slice p1 m2 m3, .string s4] h Q := fo [(2,[0,1,7,8])] H (by kernel_rfl)
theorem r_eb {p1 : Option Addr} {m2 m3 : Nat} {s4 : ByteArray} {n5 n6 : Int} (H : bC (decide (n6 < n5)) (aP p1 fun m7 m8 => oB
 (natIdx n6 m2) fun m9 => oB (AW.rd h m7 (m8 + m9 * 1)) fun v10 => vStr v10 fun s11 => bC (bEq s4 s11) (Q (.int .i64 n6) h) (unitAt P f_ea 2 [0, 1, 7, 8] [.slice
 p1 m2 m3, .string s4, .int .i64 n5, .int .i64 (IntKind.wrap .i64 (n6 + 1))] h Q)) (Q (.int .i64 (Int.negSucc 0)) h)) : unitAt P
 f_ea 2 [0, 1, 7, 8] [.slice p1 m2 m3, .string s4, .int .i64 n5, .int .i64 n6] h Q := uo [(2,[0,1,7,8])] H (by kernel_rfl)
theorem r_a4 {m1 m2 : Nat} {m3 m4 : Nat} (H : oB (AW.rd h m1 m2) fun v5 => vInt .i64 v5 fun n6 => oB (AW.rd h m3 m4) fun
 v7 => vSl v7 fun p8 m9 m10 => bC (n6 == (↑m9 : Int)) (Q (.tuple (Array.mk [.slice none 0 0, .bool false])) h) (oB (AW.rd h m1 m2) fun v11 => vInt .i64 v11
 fun n12 => oB (AW.wr h m1 m2 (.int .i64 (IntKind.wrap .i64 (n12 + 1)))) fun h13 => oB (AW.rd h13 m3 m4) fun v14 => vSl v14 fun p15 m16 m17 => oB (AW.rd h13 m1
 m2) fun v18 => vInt .i64 v18 fun n19 => aP p15 fun m20 m21 => oB (natIdx (IntKind.wrap .i64 (n19 - 1)) m16) fun m22 => oB (AW.rd h13 m20 (m21 + m22 * 1)) fun v23 =>
 vSl v23 fun p24 m25 m26 => Q (.tuple (Array.mk [.slice p24 m25 m26, .bool true])) h13)) : EvQ P f_a4 [.pointer (some ⟨m1, m2, none⟩), .pointer
 (some ⟨m3, m4, none⟩)] h Q := fo [] H (by kernel_rfl)
theorem r_fg {s1 s2 s3 : ByteArray} {n4 : Int} (H : bC (bEq s2 s3) (Q (.string s1) h) (bC (n4 == 0) (Q
 (.string s1) h) (EvQ P f_f3 [.string s1, .string s2] h fun v5 h6 => vInt .i64 v5 fun n7 => bC (n7 == 0) (Q (.string s1) h6) (bC (decide (n4 < 0))
 (unitAt P f_fg 8 [0, 1, 2, 3] [.string s1, .string s2, .string s3, .int .i64 n7] h6 Q) (bC (decide (n7 < n4)) (unitAt P f_fg 8 [0, 1, 2, 3]
 [.string s1, .string s2, .string s3, .int .i64 n7] h6 Q) (unitAt P f_fg 8 [0, 1, 2, 3] [.string s1, .string s2, .string s3, .int
 .i64 n4] h6 Q)))))) : EvQ P f_fg [.string s1, .string s2, .string s3, .int .i64 n4] h Q := fo [(8,[0,1,2,3]),(13,[0,1,2,10,11,52,53]),(21,[0,2,10,11,77,78])] H (by kernel_rfl)
theorem r_fj {s1 s2 s3 : ByteArray} {n4 : Int} (H : EvQ P f_db [.pointer (some ⟨(AW.next h), 0, none⟩),
 .int .i64 (IntKind.wrap .i64 ((↑(ByteArray.size s1) : Int) + IntKind.wrap .i64 (n4 * IntKind.wrap .i64 ((↑(ByteArray.size s3) : Int) -
 (↑(ByteArray.size s2) : Int)))))] (AW.tag (AW.addVar h [.pointer none, .slice none 0 0]) (AW.next h) ty_strings_Builder) fun v5 h6 => bC (decide ((↑(ByteArray.size s2) : Int) > 0))
 (unitAt P f_fg 13 [0, 1, 2, 10, 11, 52, 53] [.string s1, .string s2, .string s3, .pointer (some ⟨(AW.next h), 0, none⟩), .int .i64 0,
 .int .i64 n4, .int .i64 0] h6 Q) (EvQ P f_dh [.pointer (some ⟨(AW.next h), 0, none⟩), .string s3] h6 fun v7 h8 => vTup v7 fun l9 => lC l9
 fun v10 l11 => vInt .i64 v10 fun n12 => lC l11 fun v13 l14 => vIfc v13 (lN l14 (unitAt P f_fg 21 [0, 2, 10, 11, 77, 78] [.string s1, .string s3, .pointer
 (some ⟨(AW.next h), 0, none⟩), .int .i64 0, .int .i64 (IntKind.wrap .i64 (n4 - 1)), .int .i64 0] h8 Q)) fun m15 v16 => lN l14
 (unitAt P f_fg 21 [0, 2, 10, 11, 77, 78] [.string s1, .string s3, .pointer (some ⟨(AW.next h), 0, none⟩), .int .i64 0, .int .i64
 (IntKind.wrap .i64 (n4 - 1)), .int .i64 0] h8 Q))) : unitAt P f_fg 8 [0, 1, 2, 3] [.string s1, .string s2, .string s3, .int .i64
 n4] h Q := uo [(8,[0,1,2,3]),(13,[0,1,2,10,11,52,53]),(21,[0,2,10,11,77,78])] H (by kernel_rfl)
theorem r_fi {s1 s2 s3 : ByteArray} {m4 : Nat} {n5 n6 n7 : Int} (H : bC (decide (n7 < n6)) (oB
 (natBnd n5 (ByteArray.size s1)) fun m8 => EvQ P f_f8 [.string (bSub s1 m8 (ByteArray.size s1)), .string s2] h fun v9 h10 => vInt .i64 v9 fun n11 => oB (natBnd
 (IntKind.wrap .i64 (n5 + n11)) (ByteArray.size s1)) fun m12 => oB (natBnd n5 m12) fun m13 => EvQ P f_dh [.pointer (some ⟨m4, 0, none⟩), .string (bSub s1
 m13 m12)] h10 fun v14 h15 => vTup v14 fun l16 => lC l16 fun v17 l18 => vInt .i64 v17 fun n19 => lC l18 fun v20 l21 => vIfc v20 (lN l21 (EvQ P f_dh [.pointer (some
 ⟨m4, 0, none⟩), .string s3] h15 fun v22 h23 => vTup v22 fun l24 => lC l24 fun v25 l26 => vInt .i64 v25 fun n27 => lC l26 fun v28 l29 => vIfc v28 (lN l29 (unitAt
 P f_fg 13 [0, 1, 2, 10, 11, 52, 53] [.string s1, .string s2, .string s3, .pointer (some ⟨m4, 0, none⟩), .int .i64 (IntKind.wrap .i64
 (IntKind.wrap .i64 (n5 + n11) + (↑(ByteArray.size s2) : Int))), .int .i64 n6, .int .i64 (IntKind.wrap .i64 (n7 + 1))] h23 Q)) fun m30 v31 =>
 lN l29 (unitAt P f_fg 13 [0, 1, 2, 10, 11, 52, 53] [.string s1, .string s2, .string s3, .pointer (some ⟨m4, 0, none⟩), .int .i64
 (IntKind.wrap .i64 (IntKind.wrap .i64 (n5 + n11) + (↑(ByteArray.size s2) : Int))), .int .i64 n6, .int .i64 (IntKind.wrap .i64 (n7 +
 1))] h23 Q))) fun m32 v33 => lN l21 (EvQ P f_dh [.pointer (some ⟨m4, 0, none⟩), .string s3] h15 fun v34 h35 => vTup v34 fun l36 => lC l36 fun v37 l38 => vInt
 .i64 v37 fun n39 => lC l38 fun v40 l41 => vIfc v40 (lN l41 (unitAt P f_fg 13 [0, 1, 2, 10, 11, 52, 53] [.string s1, .string s2, .string s3, .pointer
 (some ⟨m4, 0, none⟩), .int .i64 (IntKind.wrap .i64 (IntKind.wrap .i64 (n5 + n11) + (↑(ByteArray.size s2) : Int))), .int .i64 n6,
 .int .i64 (IntKind.wrap .i64 (n7 + 1))] h35 Q)) fun m42 v43 => lN l41 (unitAt P f_fg 13 [0, 1, 2, 10, 11, 52, 53] [.string s1, .string s2,
 .string s3, .pointer (some ⟨m4, 0, none⟩), .int .i64 (IntKind.wrap .i64 (IntKind.wrap .i64 (n5 + n11) + (↑(ByteArray.size s2) : Int))),
 .int .i64 n6, .int .i64 (IntKind.wrap .i64 (n7 + 1))] h35 Q))) (oB (natBnd n5 (ByteArray.size s1)) fun m44 => EvQ P f_dh [.pointer (some
 ⟨m4, 0, none⟩), .string (bSub s1 m44 (ByteArray.size s1))] h fun v45 h46 => vTup v45 fun l47 => lC l47 fun v48 l49 => vInt .i64 v48 fun n50 => lC l49 fun v51
 l52 => vIfc v51 (lN l52 (EvQ P f_df [.pointer (some ⟨m4, 0, none⟩)] h46 fun v53 h54 => vStr v53 fun s55 => Q (.string s55) h54)) fun m56 v57 => lN l52 (EvQ P f_df
 [.pointer (some ⟨m4, 0, none⟩)] h46 fun v58 h59 => vStr v58 fun s60 => Q (.string s60) h59))) : unitAt P f_fg 13 [0, 1, 2, 10, 11, 52, 53] [.string s1,
 .string s2, .string s3, .pointer (some ⟨m4, 0, none⟩), .int .i64 n5, .int .i64 n6, .int .i64 n7] h Q := uo [(8,[0,1,2,3]),(13,[0,1,2,10,11,52,53]),(21,[0,2,10,11,77,78])] H (by kernel_rfl)
end Go.Proofs.YtamoepfiodgbbaaGreatDoor.E
end
