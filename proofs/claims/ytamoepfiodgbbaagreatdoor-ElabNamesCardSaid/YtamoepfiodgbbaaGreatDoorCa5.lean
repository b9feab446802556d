/- A deterministic heap for the model, proved sound, and walks of the program over it: part 10. No condition. -/
import Derived.Test.YtamoepfiodgbbaaGreatDoorCa4
set_option linter.unusedVariables false
set_option linter.unusedSimpArgs false
set_option linter.unusedSectionVars false
section
/- Bodies that the kernel can run, printed by a program of ours. -/
namespace Go.Proofs.YtamoepfiodgbbaaGreatDoor.E
open Go.Abs
set_option maxRecDepth 100000
set_option maxHeartbeats 4000000
section
noncomputable def d_cu : BodyT := fun C D a h Q => match a with
  | [.pointer p1, .agg (Array.mk [.int .i64 n2, .int .i64 n3, .string s4, .slice p5 m6 m7, .slice p8 m9 m10, .slice p11 m12 m13])] => fI n2 fun n2 => fI n3 fun n3 => fN m6 fun m6 => fN m7 fun m7 => fN m9 fun m9 => fN m10 fun m10 => fN m12 fun m12 => fN m13 fun m13 => addKL h [.int .i64 n2, .int .i64 n3, .string s4, .slice p5 m6 m7, .slice p8 m9 m10, .slice p11 m12 m13] (.node (.node (.node .nil (some (.slice p5 m6 m7)) .nil) (some (.int .i64 n3)) (.node .nil (some (.slice p11 m12 m13)) .nil)) (some (.int .i64 n2)) (.node (.node .nil (some (.slice p8 m9 m10)) .nil) (some (.string s4)) .nil)) 6 fun h_1 => nxK h fun i_2 => rdK h_1 i_2 3 fun v14 => vSlE v14 fun p15 m16 m17 => C f_cp [.pointer p1, .slice p15 m16 m17] h_1 fun v18 h19 => vTupE v18 fun l20 => lCE l20 fun v21 l22 => vSlE v21 fun p23 m24 m25 => lCE l22 fun v26 l27 => vBoolE v26 fun b28 => lNE l27 (bCE (!b28) (Q (.bool false) h19) (rdK h19 i_2 4 fun v29 => vSlE v29 fun p30 m31 m32 => C f_cp [.pointer p1, .slice p30 m31 m32] h19 fun v33 h34 => vTupE v33 fun l35 => lCE l35 fun v36 l37 => vSlE v36 fun p38 m39 m40 => lCE l37 fun v41 l42 => vBoolE v41 fun b43 => lNE l42 (bCE (!b43) (Q (.bool false) h34) (rdK h34 i_2 5 fun v44 => vSlE v44 fun p45 m46 m47 => D f_cu 9 57904382574574105006081 [.pointer p1, .pointer (some ⟨i_2, 0, none⟩), .slice p23 m24 m25, .slice p38 m39 m40, .slice none 0 0, .slice p45 m46 m47, .int .i64 (↑m46 : Int), .int .i64 0] h34 Q))))
  | _ => False
theorem k_cu : KE P d_cu f_cu 0 0 := by
  intro C D hC hD a h Q H
  unfold d_cu at H
  split at H
  · show EvQ P f_cu _ h Q
    refine r_cu ?_
    revert H
    repeat' with_reducible first
 | refine qac ?_
 | refine qad ?_
 | refine qaf hC fun _ _ => ?_
 | refine qag hD (by decide)
 | refine qah (by with_unfolding_all rfl) (by with_unfolding_all rfl) ?_
 | refine qai ?_
 | refine qam fun _ => ?_
 | refine qbb fun _ _ _ => ?_
 | refine qbc fun _ => ?_
 | refine qbd fun _ _ => ?_
 | refine qbe ?_
 | refine qbf fun _ => ?_
 | refine qbo ?_
 | refine qbp ?_
 | refine qbq ?_ ?_
 | exact id
  · exact H.elim
noncomputable def e_cu : Ent P := ⟨f_cu, 0, 0, d_cu, k_cu⟩
noncomputable def d_cz : BodyT := fun C D a h Q => match a with
  | [.pointer p1, .pointer (some ⟨m2, 0, none⟩), .slice p3 m4 m5, .slice p6 m7 m8, .slice p9 m10 m11, .slice p12 m13 m14, .int .i64 n15, .int .i64 n16] => fN m2 fun m2 => fN m4 fun m4 => fN m5 fun m5 => fN m7 fun m7 => fN m8 fun m8 => fN m10 fun m10 => fN m11 fun m11 => fN m13 fun m13 => fN m14 fun m14 => fI n15 fun n15 => fI n16 fun n16 => ltC n16 n15 (aPE p12 fun m17 m18 => nIdx n16 m13 fun m19 => rdK h m17 (m18 + m19 * 3) fun v20 => vIntE' .i64 v20 fun n21 => rdK h m17 (m18 + m19 * 3 + 1) fun v22 => vBoolE v22 fun b23 => rdK h m17 (m18 + m19 * 3 + 1 + 1) fun v24 => vSlE v24 fun p25 m26 m27 => addKL h [.int .i64 0, .bool false, .slice none 0 0] (.node (.node .nil (some (.bool false)) .nil) (some (.int .i64 0)) (.node .nil (some (.slice none 0 0)) .nil)) 3 fun h_1 => nxK h fun i_2 => wrLK i_2 [.int .i64 n21, .bool b23, .slice p25 m26 m27] h_1 0 fun h28 => rdK h28 i_2 2 fun v29 => vSlE v29 fun p30 m31 m32 => C f_cp [.pointer p1, .slice p30 m31 m32] h28 fun v33 h34 => vTupE v33 fun l35 => lCE l35 fun v36 l37 => vSlE v36 fun p38 m39 m40 => lCE l37 fun v41 l42 => vBoolE v41 fun b43 => lNE l42 (bCE (!b43) (Q (.bool false) h34) (C f_bu [.slice p38 m39 m40] h34 fun v44 h45 => vSlE v44 fun p46 m47 m48 => addKL h45 [.slice p46 m47 m48] (.node .nil (some (.slice p46 m47 m48)) .nil) 1 fun h_3 => nxK h45 fun i_4 => apK ty_sl_string 1 24 h_3 (.slice p9 m10 m11) (.slice (some ⟨i_4, 0, none⟩) 1 1) fun v49 h50 => vSlE v49 fun p51 m52 m53 => D f_cu 9 57904382574574105006081 [.pointer p1, .pointer (some ⟨m2, 0, none⟩), .slice p3 m4 m5, .slice p6 m7 m8, .slice p51 m52 m53, .slice p12 m13 m14, .int .i64 n15, .int .i64 (wI64 (addI n16 1))] h50 Q))) (eqC (↑m4 : Int) 0 (rdK h m2 3 fun v54 => vSlE v54 fun p55 m56 m57 => aPE p55 fun m58 m59 => nIdx 0 m56 fun m60 => rdK h m58 (m59 + m60 * 5) fun v61 => vStrE v61 fun s62 => rdK h m58 (m59 + m60 * 5 + 1) fun v63 => vIntE' .i64 v63 fun n64 => rdK h m58 (m59 + m60 * 5 + 1 + 1) fun v65 => vIntE' .i64 v65 fun n66 => rdK h m58 (m59 + m60 * 5 + 1 + 1 + 1) fun v67 => vBoolE v67 fun b68 => rdK h m58 (m59 + m60 * 5 + 1 + 1 + 1 + 1) fun v69 => vBoolE v69 fun b70 => C f_cf [.pointer p1, .int .i64 154, .agg (Array.mk [.string s62, .int .i64 n64, .int .i64 n66, .bool b68, .bool b70])] h fun v71 h72 => vBoolE v71 fun b73 => Q (.bool b73) h72) (aPE p3 fun m74 m75 => nIdx 0 m4 fun m76 => rdK h m74 (m75 + m76 * 6) fun v77 => vStrE v77 fun s78 => C f_f2 [.string s78, .string (ByteArray.mk #[37])] h fun v79 h80 => vBoolE v79 fun b81 => bCE b81 (aPE p3 fun m82 m83 => nIdx 0 m4 fun m84 => rdK h80 m82 (m83 + m84 * 6) fun v85 => vStrE v85 fun s86 => rdK h80 m82 (m83 + m84 * 6 + 1) fun v87 => vStrE v87 fun s88 => rdK h80 m82 (m83 + m84 * 6 + 1 + 1) fun v89 => vIntE' .i64 v89 fun n90 => rdK h80 m82 (m83 + m84 * 6 + 1 + 1 + 1) fun v91 => vIntE' .i64 v91 fun n92 => rdK h80 m82 (m83 + m84 * 6 + 1 + 1 + 1 + 1) fun v93 => vBoolE v93 fun b94 => rdK h80 m82 (m83 + m84 * 6 + 1 + 1 + 1 + 1 + 1) fun v95 => vBoolE v95 fun b96 => addKL h80 [.string (ByteArray.mk #[]), .string (ByteArray.mk #[]), .int .i64 0, .int .i64 0, .bool false, .bool false] (.node (.node (.node .nil (some (.int .i64 0)) .nil) (some (.string (ByteArray.mk #[]))) (.node .nil (some (.bool false)) .nil)) (some (.string (ByteArray.mk #[]))) (.node (.node .nil (some (.bool false)) .nil) (some (.int .i64 0)) .nil)) 6 fun h_5 => nxK h80 fun i_6 => wrLK i_6 [.string s86, .string s88, .int .i64 n90, .int .i64 n92, .bool b94, .bool b96] h_5 0 fun h97 => gtC (↑m4 : Int) 1 (aPE p3 fun m98 m99 => nIdx 1 m4 fun m100 => rdK h97 m98 (m99 + m100 * 6 + 1) fun v101 => vStrE v101 fun s102 => rdK h97 m98 (m99 + m100 * 6 + 1 + 1) fun v103 => vIntE' .i64 v103 fun n104 => rdK h97 m98 (m99 + m100 * 6 + 1 + 1 + 1) fun v105 => vIntE' .i64 v105 fun n106 => rdK h97 m98 (m99 + m100 * 6 + 1 + 1 + 1 + 1) fun v107 => vBoolE v107 fun b108 => rdK h97 m98 (m99 + m100 * 6 + 1 + 1 + 1 + 1 + 1) fun v109 => vBoolE v109 fun b110 => C f_cf [.pointer p1, .int .i64 153, .agg (Array.mk [.string s102, .int .i64 n104, .int .i64 n106, .bool b108, .bool b110])] h97 fun v111 h112 => vBoolE v111 fun b113 => Q (.bool b113) h112) (rdK h97 i_6 0 fun v114 => vStrE v114 fun s115 => C f_f3 [.string s115, .string (ByteArray.mk #[37])] h97 fun v116 h117 => vIntE' .i64 v116 fun n118 => gtC n118 1 (rdK h117 i_6 1 fun v119 => vStrE v119 fun s120 => rdK h117 i_6 2 fun v121 => vIntE' .i64 v121 fun n122 => rdK h117 i_6 3 fun v123 => vIntE' .i64 v123 fun n124 => rdK h117 i_6 4 fun v125 => vBoolE v125 fun b126 => rdK h117 i_6 5 fun v127 => vBoolE v127 fun b128 => C f_cf [.pointer p1, .int .i64 153, .agg (Array.mk [.string s120, .int .i64 n122, .int .i64 n124, .bool b126, .bool b128])] h117 fun v129 h130 => vBoolE v129 fun b131 => Q (.bool b131) h130) (rdK h117 i_6 0 fun v132 => vStrE v132 fun s133 => C f_dk [.string s133, .string (ByteArray.mk #[120])] h117 fun v134 h135 => vStrE v134 fun s136 => C f_dl [.string s136] h135 fun v137 h138 => vBoolE v137 fun b139 => bCE (!b139) (rdK h138 i_6 1 fun v140 => vStrE v140 fun s141 => rdK h138 i_6 2 fun v142 => vIntE' .i64 v142 fun n143 => rdK h138 i_6 3 fun v144 => vIntE' .i64 v144 fun n145 => rdK h138 i_6 4 fun v146 => vBoolE v146 fun b147 => rdK h138 i_6 5 fun v148 => vBoolE v148 fun b149 => C f_cf [.pointer p1, .int .i64 2, .agg (Array.mk [.string s141, .int .i64 n143, .int .i64 n145, .bool b147, .bool b149])] h138 fun v150 h151 => vBoolE v150 fun b152 => Q (.bool b152) h151) (C f_cr [.pointer p1] h138 fun v153 h154 => vBoolE v153 fun b155 => bCE b155 (rdK h154 i_6 1 fun v156 => vStrE v156 fun s157 => rdK h154 i_6 2 fun v158 => vIntE' .i64 v158 fun n159 => rdK h154 i_6 3 fun v160 => vIntE' .i64 v160 fun n161 => rdK h154 i_6 4 fun v162 => vBoolE v162 fun b163 => rdK h154 i_6 5 fun v164 => vBoolE v164 fun b165 => C f_cf [.pointer p1, .int .i64 8, .agg (Array.mk [.string s157, .int .i64 n159, .int .i64 n161, .bool b163, .bool b165])] h154 fun v166 h167 => vBoolE v166 fun b168 => Q (.bool b168) h167) (aPE p1 fun m169 m170 => rdK h154 m169 (m170 + 1) fun v171 => vPtrE v171 fun p172 => aPE p1 fun m173 m174 => rdK h154 m173 (m174 + 1) fun v175 => vPtrE v175 fun p176 => aPE p176 fun m177 m178 => rdK h154 m177 (m178 + 2) fun v179 => vSlE v179 fun p180 m181 m182 => aPE p3 fun m183 m184 => nIdx 0 m4 fun m185 => rdK h154 m183 (m184 + m185 * 6) fun v186 => vStrE v186 fun s187 => C f_bu [.slice p6 m7 m8] h154 fun v188 h189 => vSlE v188 fun p190 m191 m192 => addKL h189 [.string s187, .slice p190 m191 m192, .slice p9 m10 m11] (.node (.node .nil (some (.slice p190 m191 m192)) .nil) (some (.string s187)) (.node .nil (some (.slice p9 m10 m11)) .nil)) 3 fun h_7 => nxK h189 fun i_8 => apK ty_elab_pattern 3 64 h_7 (.slice p180 m181 m182) (.slice (some ⟨i_8, 0, none⟩) 1 1) fun v193 h194 => vSlE v193 fun p195 m196 m197 => aPE p172 fun m198 m199 => wrK h194 m198 (m199 + 2) (.slice p195 m196 m197) fun h200 => rdK h189 m169 (m170 + 1) fun v201 => vPtrE v201 fun p202 => bCE (sameB (.pointer p202) (.pointer p172)) (rdK h_7 m169 (m170 + 1) fun v203 => vPtrE v203 fun p204 => bCE (sameB (.pointer p204) (.pointer p172)) (rdK h194 m169 (m170 + 1) fun v205 => vPtrE v205 fun p206 => bCE (sameB (.pointer p206) (.pointer p172)) (rdK h189 m173 (m174 + 1) fun v207 => vPtrE v207 fun p208 => bCE (sameB (.pointer p208) (.pointer p176)) (rdK h_7 m173 (m174 + 1) fun v209 => vPtrE v209 fun p210 => bCE (sameB (.pointer p210) (.pointer p176)) (rdK h189 m177 (m178 + 2) fun v211 => vSlE v211 fun p212 m213 m214 => bCE (sameB (.slice p212 m213 m214) (.slice p180 m181 m182)) (rdK h_7 m177 (m178 + 2) fun v215 => vSlE v215 fun p216 m217 m218 => bCE (sameB (.slice p216 m217 m218) (.slice p180 m181 m182)) (rdK h189 m183 (m184 + m185 * 6) fun v219 => vStrE v219 fun s220 => bCE (sameB (.string s220) (.string s187)) (D f_cu 30 15772502896676865 [.pointer p1, .pointer (some ⟨m2, 0, none⟩), .slice p3 m4 m5, .slice p6 m7 m8, .slice p9 m10 m11, .bool b81] h200 Q) False) False) False) False) False) False) False) False))))) (D f_cu 30 15772502896676865 [.pointer p1, .pointer (some ⟨m2, 0, none⟩), .slice p3 m4 m5, .slice p6 m7 m8, .slice p9 m10 m11, .bool b81] h80 Q)))
  | _ => False
theorem k_cz : KE P d_cz f_cu 10 57904382574574105006081 := by
  intro C D hC hD a h Q H
  unfold d_cz at H
  split at H
  · show unitAt P f_cu 9 (decL 57904382574574105006081) _ h Q
    rw [show decL 57904382574574105006081 = [0, 3, 5, 7, 8, 46, 47, 48] from by decide]
    refine r_cz ?_
    simp only [wI64_eq, addI_eq] at H
    revert H
    repeat' with_reducible first
 | refine qbr ti_ty_sl_sl_string rfl ti_ty_sl_string rfl rfl rfl ti_ty_sl_sl_string rfl fun _ _ => ?_
 | refine qbr ti_ty_sl_elab_pattern rfl ti_ty_elab_pattern rfl rfl rfl ti_ty_sl_elab_pattern rfl fun _ _ => ?_
 | refine qac ?_
 | refine qad ?_
 | refine qaf hC fun _ _ => ?_
 | refine qag hD (by decide)
 | refine qah (by with_unfolding_all rfl) (by with_unfolding_all rfl) ?_
 | refine qai ?_
 | refine qam fun _ => ?_
 | refine qan fun _ => ?_
 | refine qao fun _ => ?_
 | refine qaq fun _ => ?_
 | refine qas fun _ => ?_
 | refine qat ?_ ?_
 | refine qav ?_ ?_
 | refine qax ?_ ?_
 | refine qba fun _ => ?_
 | refine qbb fun _ _ _ => ?_
 | refine qbc fun _ => ?_
 | refine qbd fun _ _ => ?_
 | refine qbe ?_
 | refine qbf fun _ => ?_
 | refine qbh fun _ _ => ?_
 | refine qbi fun _ => ?_
 | refine qbo ?_
 | refine qbp ?_
 | refine qbq ?_ ?_
 | exact id
  · exact H.elim
noncomputable def e_cz : Ent P := ⟨f_cu, 10, 57904382574574105006081, d_cz, k_cz⟩
noncomputable def d_cv : BodyT := fun C D a h Q => match a with
  | [.pointer p1, .pointer (some ⟨m2, 0, none⟩), .slice p3 m4 m5, .slice p6 m7 m8, .slice p9 m10 m11, .bool b12] => fN m2 fun m2 => fN m4 fun m4 => fN m5 fun m5 => fN m7 fun m7 => fN m8 fun m8 => fN m10 fun m10 => fN m11 fun m11 => fB b12 fun b12 => addKL h [.string (ByteArray.mk #[]), .slice none 0 0, .slice none 0 0, .slice none 0 0] (.node (.node (.node .nil (some (.slice none 0 0)) .nil) (some (.slice none 0 0)) .nil) (some (.string (ByteArray.mk #[]))) (.node .nil (some (.slice none 0 0)) .nil)) 4 fun h_1 => nxK h fun i_2 => wrLK i_2 [.string (ByteArray.mk #[]), .slice none 0 0, .slice none 0 0, .slice none 0 0] h_1 0 fun h13 => D f_cu 32 20088520068772598386689 [.pointer p1, .pointer (some ⟨m2, 0, none⟩), .slice p3 m4 m5, .slice p6 m7 m8, .slice p9 m10 m11, .bool b12, .pointer (some ⟨i_2, 0, none⟩), .int .i64 0] h13 Q
  | _ => False
theorem k_cv : KE P d_cv f_cu 31 15772502896676865 := by
  intro C D hC hD a h Q H
  unfold d_cv at H
  split at H
  · show unitAt P f_cu 30 (decL 15772502896676865) _ h Q
    rw [show decL 15772502896676865 = [0, 3, 5, 7, 8, 13] from by decide]
    refine r_cv ?_
    revert H
    repeat' with_reducible first
 | refine qad ?_
 | refine qae ?_
 | refine qag hD (by decide)
 | refine qah (by with_unfolding_all rfl) (by with_unfolding_all rfl) ?_
 | refine qai ?_
 | refine qao fun _ => ?_
 | exact id
  · exact H.elim
noncomputable def e_cv : Ent P := ⟨f_cu, 31, 15772502896676865, d_cv, k_cv⟩
noncomputable def d_cw : BodyT := fun C D a h Q => match a with
  | [.pointer p1, .pointer (some ⟨m2, 0, none⟩), .slice p3 m4 m5, .slice p6 m7 m8, .slice p9 m10 m11, .bool b12, .pointer (some ⟨m13, 0, none⟩), .int .i64 n14] => fN m2 fun m2 => fN m4 fun m4 => fN m5 fun m5 => fN m7 fun m7 => fN m8 fun m8 => fN m10 fun m10 => fN m11 fun m11 => fB b12 fun b12 => fN m13 fun m13 => fI n14 fun n14 => ltC n14 (↑m4 : Int) (bCE (!b12) (aPE p3 fun m15 m16 => nIdx n14 m4 fun m17 => rdK h m15 (m16 + m17 * 6) fun v18 => vStrE v18 fun s19 => rdK h m15 (m16 + m17 * 6 + 1) fun v20 => vStrE v20 fun s21 => rdK h m15 (m16 + m17 * 6 + 1 + 1) fun v22 => vIntE' .i64 v22 fun n23 => rdK h m15 (m16 + m17 * 6 + 1 + 1 + 1) fun v24 => vIntE' .i64 v24 fun n25 => rdK h m15 (m16 + m17 * 6 + 1 + 1 + 1 + 1) fun v26 => vBoolE v26 fun b27 => rdK h m15 (m16 + m17 * 6 + 1 + 1 + 1 + 1 + 1) fun v28 => vBoolE v28 fun b29 => addKL h [.string (ByteArray.mk #[]), .string (ByteArray.mk #[]), .int .i64 0, .int .i64 0, .bool false, .bool false] (.node (.node (.node .nil (some (.int .i64 0)) .nil) (some (.string (ByteArray.mk #[]))) (.node .nil (some (.bool false)) .nil)) (some (.string (ByteArray.mk #[]))) (.node (.node .nil (some (.bool false)) .nil) (some (.int .i64 0)) .nil)) 6 fun h_1 => nxK h fun i_2 => wrLK i_2 [.string s19, .string s21, .int .i64 n23, .int .i64 n25, .bool b27, .bool b29] h_1 0 fun h30 => rdK h30 i_2 0 fun v31 => vStrE v31 fun s32 => C f_do [.string s32] h30 fun v33 h34 => vTupE v33 fun l35 => lCE l35 fun v36 l37 => vStrE v36 fun s38 => lCE l37 fun v39 l40 => vIntE' .i64 v39 fun n41 => lNE l40 (aPE p1 fun m42 m43 => rdK h34 m42 (m43 + 1) fun v44 => vPtrE v44 fun p45 => aPE p45 fun m46 m47 => rdK h34 m46 (m47 + 1) fun v48 => vMapE v48 fun p49 => mlK h34 p49 fun l50 => lkS s38 (fun p51 => vStrE (Option.getD p51 (.string (ByteArray.mk #[]))) fun s52 => neC n41 0 (rdK h34 i_2 1 fun v53 => vStrE v53 fun s54 => rdK h34 i_2 2 fun v55 => vIntE' .i64 v55 fun n56 => rdK h34 i_2 3 fun v57 => vIntE' .i64 v57 fun n58 => rdK h34 i_2 4 fun v59 => vBoolE v59 fun b60 => rdK h34 i_2 5 fun v61 => vBoolE v61 fun b62 => C f_cf [.pointer p1, .int .i64 n41, .agg (Array.mk [.string s54, .int .i64 n56, .int .i64 n58, .bool b60, .bool b62])] h34 fun v63 h64 => vBoolE v63 fun b65 => Q (.bool b65) h64) (bCE (Option.isSome p51) (rdK h34 i_2 1 fun v66 => vStrE v66 fun s67 => rdK h34 i_2 2 fun v68 => vIntE' .i64 v68 fun n69 => rdK h34 i_2 3 fun v70 => vIntE' .i64 v70 fun n71 => rdK h34 i_2 4 fun v72 => vBoolE v72 fun b73 => rdK h34 i_2 5 fun v74 => vBoolE v74 fun b75 => C f_cf [.pointer p1, .int .i64 152, .agg (Array.mk [.string s67, .int .i64 n69, .int .i64 n71, .bool b73, .bool b75])] h34 fun v76 h77 => vBoolE v76 fun b78 => Q (.bool b78) h77) (eqC n14 4 (rdK h34 i_2 1 fun v79 => vStrE v79 fun s80 => rdK h34 i_2 2 fun v81 => vIntE' .i64 v81 fun n82 => rdK h34 i_2 3 fun v83 => vIntE' .i64 v83 fun n84 => rdK h34 i_2 4 fun v85 => vBoolE v85 fun b86 => rdK h34 i_2 5 fun v87 => vBoolE v87 fun b88 => C f_cf [.pointer p1, .int .i64 154, .agg (Array.mk [.string s80, .int .i64 n82, .int .i64 n84, .bool b86, .bool b88])] h34 fun v89 h90 => vBoolE v89 fun b91 => Q (.bool b91) h90) (C f_cr [.pointer p1] h34 fun v92 h93 => vBoolE v92 fun b94 => bCE b94 (rdK h93 i_2 1 fun v95 => vStrE v95 fun s96 => rdK h93 i_2 2 fun v97 => vIntE' .i64 v97 fun n98 => rdK h93 i_2 3 fun v99 => vIntE' .i64 v99 fun n100 => rdK h93 i_2 4 fun v101 => vBoolE v101 fun b102 => rdK h93 i_2 5 fun v103 => vBoolE v103 fun b104 => C f_cf [.pointer p1, .int .i64 8, .agg (Array.mk [.string s96, .int .i64 n98, .int .i64 n100, .bool b102, .bool b104])] h93 fun v105 h106 => vBoolE v105 fun b107 => Q (.bool b107) h106) (eqC n14 0 (wrK h93 m13 0 (.string s38) fun h108 => D f_cu 47 22989679092746726917804033 [.pointer p1, .pointer (some ⟨m2, 0, none⟩), .slice p3 m4 m5, .slice p6 m7 m8, .slice p9 m10 m11, .bool b12, .pointer (some ⟨m13, 0, none⟩), .int .i64 n14, .string s38] h108 Q) (D f_cu 47 22989679092746726917804033 [.pointer p1, .pointer (some ⟨m2, 0, none⟩), .slice p3 m4 m5, .slice p6 m7 m8, .slice p9 m10 m11, .bool b12, .pointer (some ⟨m13, 0, none⟩), .int .i64 n14, .string s38] h93 Q)))))) l50)) (D f_cu 50 26535224407301820417 [.pointer p1, .pointer (some ⟨m2, 0, none⟩), .slice p6 m7 m8, .slice p9 m10 m11, .bool b12, .pointer (some ⟨m13, 0, none⟩), .int .i64 0] h Q)) (D f_cu 50 26535224407301820417 [.pointer p1, .pointer (some ⟨m2, 0, none⟩), .slice p6 m7 m8, .slice p9 m10 m11, .bool b12, .pointer (some ⟨m13, 0, none⟩), .int .i64 0] h Q)
  | _ => False
theorem k_cw : KE P d_cw f_cu 33 20088520068772598386689 := by
  intro C D hC hD a h Q H
  unfold d_cw at H
  split at H
  · show unitAt P f_cu 32 (decL 20088520068772598386689) _ h Q
    rw [show decL 20088520068772598386689 = [0, 3, 5, 7, 8, 13, 15, 16] from by decide]
    refine r_cw ?_
    revert H
    repeat' with_reducible first
 | refine qaa fun _ => ?_
 | refine qab fun _ => ?_
 | refine qac ?_
 | refine qad ?_
 | refine qae ?_
 | refine qaf hC fun _ _ => ?_
 | refine qag hD (by decide)
 | refine qah (by with_unfolding_all rfl) (by with_unfolding_all rfl) ?_
 | refine qai ?_
 | refine qam fun _ => ?_
 | refine qan fun _ => ?_
 | refine qao fun _ => ?_
 | refine qaq fun _ => ?_
 | refine qas fun _ => ?_
 | refine qat ?_ ?_
 | refine qax ?_ ?_
 | refine qay ?_ ?_
 | refine qba fun _ => ?_
 | refine qbc fun _ => ?_
 | refine qbd fun _ _ => ?_
 | refine qbe ?_
 | refine qbf fun _ => ?_
 | refine qbh fun _ _ => ?_
 | refine qbi fun _ => ?_
 | refine qbl fun _ => ?_
 | refine qbo ?_
 | refine qbp ?_
 | refine qbq ?_ ?_
 | exact id
  · exact H.elim
noncomputable def e_cw : Ent P := ⟨f_cu, 33, 20088520068772598386689, d_cw, k_cw⟩
noncomputable def d_cx : BodyT := fun C D a h Q => match a with
  | [.pointer p1, .pointer (some ⟨m2, 0, none⟩), .slice p3 m4 m5, .slice p6 m7 m8, .slice p9 m10 m11, .bool b12, .pointer (some ⟨m13, 0, none⟩), .int .i64 n14, .string s15] => fN m2 fun m2 => fN m4 fun m4 => fN m5 fun m5 => fN m7 fun m7 => fN m8 fun m8 => fN m10 fun m10 => fN m11 fun m11 => fB b12 fun b12 => fN m13 fun m13 => fI n14 fun n14 => rdK h m13 1 fun v16 => vSlE v16 fun p17 m18 m19 => addKL h [.string s15] (.node .nil (some (.string s15)) .nil) 1 fun h_1 => nxK h fun i_2 => apK ty_string 1 16 h_1 (.slice p17 m18 m19) (.slice (some ⟨i_2, 0, none⟩) 1 1) fun v20 h21 => vSlE v20 fun p22 m23 m24 => wrK h21 m13 1 (.slice p22 m23 m24) fun h25 => aPE p1 fun m26 m27 => rdK h25 m26 (m27 + 1) fun v28 => vPtrE v28 fun p29 => aPE p29 fun m30 m31 => rdK h25 m30 (m31 + 1) fun v32 => vMapE v32 fun p33 => rdK h25 m13 0 fun v34 => vStrE v34 fun s35 => muK h25 (.map p33) (.string s15) (.string s35) fun h36 => D f_cu 32 20088520068772598386689 [.pointer p1, .pointer (some ⟨m2, 0, none⟩), .slice p3 m4 m5, .slice p6 m7 m8, .slice p9 m10 m11, .bool b12, .pointer (some ⟨m13, 0, none⟩), .int .i64 (wI64 (addI n14 1))] h36 Q
  | _ => False
theorem k_cx : KE P d_cx f_cu 48 22989679092746726917804033 := by
  intro C D hC hD a h Q H
  unfold d_cx at H
  split at H
  · show unitAt P f_cu 47 (decL 22989679092746726917804033) _ h Q
    rw [show decL 22989679092746726917804033 = [0, 3, 5, 7, 8, 13, 15, 16, 18] from by decide]
    refine r_cx ?_
    simp only [wI64_eq, addI_eq] at H
    revert H
    repeat' with_reducible first
 | refine qbr ti_ty_sl_string rfl ti_ty_string rfl rfl rfl ti_ty_sl_string rfl fun _ _ => ?_
 | refine qbs ti_ty_map_string_string rfl ti_ty_string rfl fun _ => ?_
 | refine qac ?_
 | refine qad ?_
 | refine qae ?_
 | refine qag hD (by decide)
 | refine qah (by with_unfolding_all rfl) (by with_unfolding_all rfl) ?_
 | refine qai ?_
 | refine qam fun _ => ?_
 | refine qan fun _ => ?_
 | refine qba fun _ => ?_
 | refine qbb fun _ _ _ => ?_
 | refine qbh fun _ _ => ?_
 | refine qbi fun _ => ?_
 | refine qbl fun _ => ?_
 | exact id
  · exact H.elim
noncomputable def e_cx : Ent P := ⟨f_cu, 48, 22989679092746726917804033, d_cx, k_cx⟩
noncomputable def d_cy : BodyT := fun C D a h Q => match a with
  | [.pointer p1, .pointer (some ⟨m2, 0, none⟩), .slice p3 m4 m5, .slice p6 m7 m8, .bool b9, .pointer (some ⟨m10, 0, none⟩), .int .i64 n11] => fN m2 fun m2 => fN m4 fun m4 => fN m5 fun m5 => fN m7 fun m7 => fN m8 fun m8 => fB b9 fun b9 => fN m10 fun m10 => fI n11 fun n11 => ltC n11 (↑m4 : Int) (bCE (!b9) (aPE p3 fun m12 m13 => nIdx n11 m4 fun m14 => rdK h m12 (m13 + m14 * 6) fun v15 => vStrE v15 fun s16 => C f_do [.string s16] h fun v17 h18 => vTupE v17 fun l19 => lCE l19 fun v20 l21 => vStrE v20 fun s22 => lCE l21 fun v23 l24 => vIntE' .i64 v23 fun n25 => lNE l24 (neC n25 0 (aPE p3 fun m26 m27 => nIdx n11 m4 fun m28 => rdK h18 m26 (m27 + m28 * 6 + 1) fun v29 => vStrE v29 fun s30 => rdK h18 m26 (m27 + m28 * 6 + 1 + 1) fun v31 => vIntE' .i64 v31 fun n32 => rdK h18 m26 (m27 + m28 * 6 + 1 + 1 + 1) fun v33 => vIntE' .i64 v33 fun n34 => rdK h18 m26 (m27 + m28 * 6 + 1 + 1 + 1 + 1) fun v35 => vBoolE v35 fun b36 => rdK h18 m26 (m27 + m28 * 6 + 1 + 1 + 1 + 1 + 1) fun v37 => vBoolE v37 fun b38 => C f_cf [.pointer p1, .int .i64 n25, .agg (Array.mk [.string s30, .int .i64 n32, .int .i64 n34, .bool b36, .bool b38])] h18 fun v39 h40 => vBoolE v39 fun b41 => Q (.bool b41) h40) (rdK h18 m10 2 fun v42 => vSlE v42 fun p43 m44 m45 => C f_e7 [.slice p43 m44 m45, .string s22] h18 fun v46 h47 => vBoolE v46 fun b48 => bCE (!b48) (rdK h47 m10 2 fun v49 => vSlE v49 fun p50 m51 m52 => addKL h47 [.string s22] (.node .nil (some (.string s22)) .nil) 1 fun h_1 => nxK h47 fun i_2 => apK ty_string 1 16 h_1 (.slice p50 m51 m52) (.slice (some ⟨i_2, 0, none⟩) 1 1) fun v53 h54 => vSlE v53 fun p55 m56 m57 => wrK h54 m10 2 (.slice p55 m56 m57) fun h58 => D f_cu 50 26535224407301820417 [.pointer p1, .pointer (some ⟨m2, 0, none⟩), .slice p3 m4 m5, .slice p6 m7 m8, .bool b9, .pointer (some ⟨m10, 0, none⟩), .int .i64 (wI64 (addI n11 1))] h58 Q) (D f_cu 50 26535224407301820417 [.pointer p1, .pointer (some ⟨m2, 0, none⟩), .slice p3 m4 m5, .slice p6 m7 m8, .bool b9, .pointer (some ⟨m10, 0, none⟩), .int .i64 (wI64 (addI n11 1))] h47 Q)))) (C f_a3 [.slice p6 m7 m8] h fun v59 h60 => vTupE v59 fun l61 => lCE l61 fun v62 l63 => vSlE v62 fun p64 m65 m66 => lCE l63 fun v67 l68 => vAggE v67 fun l69 => lCE l69 fun v70 l71 => vIntE' .i64 v70 fun n72 => lCE l71 fun v73 l74 => vIntE' .i64 v73 fun n75 => lNE l74 (lNE l68 (addKL h60 [.int .i64 0, .int .i64 0] (.node (.node .nil (some (.int .i64 0)) .nil) (some (.int .i64 0)) .nil) 2 fun h_3 => nxK h60 fun i_4 => wrLK i_4 [.int .i64 n72, .int .i64 n75] h_3 0 fun h76 => rdK h76 i_4 0 fun v77 => vIntE' .i64 v77 fun n78 => neC n78 0 (rdK h76 i_4 0 fun v79 => vIntE' .i64 v79 fun n80 => rdK h76 m2 5 fun v81 => vSlE v81 fun p82 m83 m84 => rdK h76 i_4 1 fun v85 => vIntE' .i64 v85 fun n86 => rdK h76 m2 5 fun v87 => vSlE v87 fun p88 m89 m90 => aPE p82 fun m91 m92 => nIdx (if IntKind.wrap .i64 ((↑m89 : Int) - 1) < n86 then IntKind.wrap .i64 ((↑m89 : Int) - 1) else n86) m83 fun m93 => rdK h76 m91 (m92 + m93 * 3 + 2) fun v94 => vSlE v94 fun p95 m96 m97 => aPE p95 fun m98 m99 => nIdx 0 m96 fun m100 => rdK h76 m98 (m99 + m100 * 5) fun v101 => vStrE v101 fun s102 => rdK h76 m98 (m99 + m100 * 5 + 1) fun v103 => vIntE' .i64 v103 fun n104 => rdK h76 m98 (m99 + m100 * 5 + 1 + 1) fun v105 => vIntE' .i64 v105 fun n106 => rdK h76 m98 (m99 + m100 * 5 + 1 + 1 + 1) fun v107 => vBoolE v107 fun b108 => rdK h76 m98 (m99 + m100 * 5 + 1 + 1 + 1 + 1) fun v109 => vBoolE v109 fun b110 => C f_cf [.pointer p1, .int .i64 n80, .agg (Array.mk [.string s102, .int .i64 n104, .int .i64 n106, .bool b108, .bool b110])] h76 fun v111 h112 => vBoolE v111 fun b113 => Q (.bool b113) h112) (wrK h76 m10 3 (.slice p64 m65 m66) fun h114 => bCE b9 (Q (.bool true) h114) (rdK h114 m10 0 fun v115 => vStrE v115 fun s116 => rdK h114 m10 1 fun v117 => vSlE v117 fun p118 m119 m120 => rdK h114 m10 2 fun v121 => vSlE v121 fun p122 m123 m124 => rdK h114 m10 3 fun v125 => vSlE v125 fun p126 m127 m128 => C f_bj [.agg (Array.mk [.string s116, .slice p118 m119 m120, .slice p122 m123 m124, .slice p126 m127 m128])] h114 fun v129 h130 => vStrE v129 fun s131 => gtC (↑(szE s131) : Int) 512 (rdK h130 m2 3 fun v132 => vSlE v132 fun p133 m134 m135 => aPE p133 fun m136 m137 => nIdx 0 m134 fun m138 => rdK h130 m136 (m137 + m138 * 5) fun v139 => vStrE v139 fun s140 => rdK h130 m136 (m137 + m138 * 5 + 1) fun v141 => vIntE' .i64 v141 fun n142 => rdK h130 m136 (m137 + m138 * 5 + 1 + 1) fun v143 => vIntE' .i64 v143 fun n144 => rdK h130 m136 (m137 + m138 * 5 + 1 + 1 + 1) fun v145 => vBoolE v145 fun b146 => rdK h130 m136 (m137 + m138 * 5 + 1 + 1 + 1 + 1) fun v147 => vBoolE v147 fun b148 => C f_cf [.pointer p1, .int .i64 154, .agg (Array.mk [.string s140, .int .i64 n142, .int .i64 n144, .bool b146, .bool b148])] h130 fun v149 h150 => vBoolE v149 fun b151 => Q (.bool b151) h150) (aPE p1 fun m152 m153 => rdK h130 m152 (m153 + 1) fun v154 => vPtrE v154 fun p155 => aPE p155 fun m156 m157 => rdK h130 m156 m157 fun v158 => vMapE v158 fun p159 => rdK h130 m10 0 fun v160 => vStrE v160 fun s161 => rdK h130 m10 0 fun v162 => vStrE v162 fun s163 => rdK h130 m10 1 fun v164 => vSlE v164 fun p165 m166 m167 => rdK h130 m10 2 fun v168 => vSlE v168 fun p169 m170 m171 => rdK h130 m10 3 fun v172 => vSlE v172 fun p173 m174 m175 => muK h130 (.map p159) (.string s161) (.agg (Array.mk [.string s163, .slice p165 m166 m167, .slice p169 m170 m171, .slice p173 m174 m175])) fun h176 => Q (.bool true) h176))))))) (C f_a3 [.slice p6 m7 m8] h fun v177 h178 => vTupE v177 fun l179 => lCE l179 fun v180 l181 => vSlE v180 fun p182 m183 m184 => lCE l181 fun v185 l186 => vAggE v185 fun l187 => lCE l187 fun v188 l189 => vIntE' .i64 v188 fun n190 => lCE l189 fun v191 l192 => vIntE' .i64 v191 fun n193 => lNE l192 (lNE l186 (addKL h178 [.int .i64 0, .int .i64 0] (.node (.node .nil (some (.int .i64 0)) .nil) (some (.int .i64 0)) .nil) 2 fun h_5 => nxK h178 fun i_6 => wrLK i_6 [.int .i64 n190, .int .i64 n193] h_5 0 fun h194 => rdK h194 i_6 0 fun v195 => vIntE' .i64 v195 fun n196 => neC n196 0 (rdK h194 i_6 0 fun v197 => vIntE' .i64 v197 fun n198 => rdK h194 m2 5 fun v199 => vSlE v199 fun p200 m201 m202 => rdK h194 i_6 1 fun v203 => vIntE' .i64 v203 fun n204 => rdK h194 m2 5 fun v205 => vSlE v205 fun p206 m207 m208 => aPE p200 fun m209 m210 => nIdx (if IntKind.wrap .i64 ((↑m207 : Int) - 1) < n204 then IntKind.wrap .i64 ((↑m207 : Int) - 1) else n204) m201 fun m211 => rdK h194 m209 (m210 + m211 * 3 + 2) fun v212 => vSlE v212 fun p213 m214 m215 => aPE p213 fun m216 m217 => nIdx 0 m214 fun m218 => rdK h194 m216 (m217 + m218 * 5) fun v219 => vStrE v219 fun s220 => rdK h194 m216 (m217 + m218 * 5 + 1) fun v221 => vIntE' .i64 v221 fun n222 => rdK h194 m216 (m217 + m218 * 5 + 1 + 1) fun v223 => vIntE' .i64 v223 fun n224 => rdK h194 m216 (m217 + m218 * 5 + 1 + 1 + 1) fun v225 => vBoolE v225 fun b226 => rdK h194 m216 (m217 + m218 * 5 + 1 + 1 + 1 + 1) fun v227 => vBoolE v227 fun b228 => C f_cf [.pointer p1, .int .i64 n198, .agg (Array.mk [.string s220, .int .i64 n222, .int .i64 n224, .bool b226, .bool b228])] h194 fun v229 h230 => vBoolE v229 fun b231 => Q (.bool b231) h230) (wrK h194 m10 3 (.slice p182 m183 m184) fun h232 => bCE b9 (Q (.bool true) h232) (rdK h232 m10 0 fun v233 => vStrE v233 fun s234 => rdK h232 m10 1 fun v235 => vSlE v235 fun p236 m237 m238 => rdK h232 m10 2 fun v239 => vSlE v239 fun p240 m241 m242 => rdK h232 m10 3 fun v243 => vSlE v243 fun p244 m245 m246 => C f_bj [.agg (Array.mk [.string s234, .slice p236 m237 m238, .slice p240 m241 m242, .slice p244 m245 m246])] h232 fun v247 h248 => vStrE v247 fun s249 => gtC (↑(szE s249) : Int) 512 (rdK h248 m2 3 fun v250 => vSlE v250 fun p251 m252 m253 => aPE p251 fun m254 m255 => nIdx 0 m252 fun m256 => rdK h248 m254 (m255 + m256 * 5) fun v257 => vStrE v257 fun s258 => rdK h248 m254 (m255 + m256 * 5 + 1) fun v259 => vIntE' .i64 v259 fun n260 => rdK h248 m254 (m255 + m256 * 5 + 1 + 1) fun v261 => vIntE' .i64 v261 fun n262 => rdK h248 m254 (m255 + m256 * 5 + 1 + 1 + 1) fun v263 => vBoolE v263 fun b264 => rdK h248 m254 (m255 + m256 * 5 + 1 + 1 + 1 + 1) fun v265 => vBoolE v265 fun b266 => C f_cf [.pointer p1, .int .i64 154, .agg (Array.mk [.string s258, .int .i64 n260, .int .i64 n262, .bool b264, .bool b266])] h248 fun v267 h268 => vBoolE v267 fun b269 => Q (.bool b269) h268) (aPE p1 fun m270 m271 => rdK h248 m270 (m271 + 1) fun v272 => vPtrE v272 fun p273 => aPE p273 fun m274 m275 => rdK h248 m274 m275 fun v276 => vMapE v276 fun p277 => rdK h248 m10 0 fun v278 => vStrE v278 fun s279 => rdK h248 m10 0 fun v280 => vStrE v280 fun s281 => rdK h248 m10 1 fun v282 => vSlE v282 fun p283 m284 m285 => rdK h248 m10 2 fun v286 => vSlE v286 fun p287 m288 m289 => rdK h248 m10 3 fun v290 => vSlE v290 fun p291 m292 m293 => muK h248 (.map p277) (.string s279) (.agg (Array.mk [.string s281, .slice p283 m284 m285, .slice p287 m288 m289, .slice p291 m292 m293])) fun h294 => Q (.bool true) h294))))))
  | _ => False
theorem k_cy : KE P d_cy f_cu 51 26535224407301820417 := by
  intro C D hC hD a h Q H
  unfold d_cy at H
  split at H
  · show unitAt P f_cu 50 (decL 26535224407301820417) _ h Q
    rw [show decL 26535224407301820417 = [0, 3, 7, 8, 13, 15, 22] from by decide]
    refine r_cy ?_
    simp only [wI64_eq, addI_eq, szE_eq] at H
    revert H
    repeat' with_reducible first
 | refine qbr ti_ty_sl_string rfl ti_ty_string rfl rfl rfl ti_ty_sl_string rfl fun _ _ => ?_
 | refine qbs ti_ty_map_string_api_Job rfl ti_ty_string rfl fun _ => ?_
 | refine qac ?_
 | refine qad ?_
 | refine qae ?_
 | refine qaf hC fun _ _ => ?_
 | refine qag hD (by decide)
 | refine qah (by with_unfolding_all rfl) (by with_unfolding_all rfl) ?_
 | refine qai ?_
 | refine qam fun _ => ?_
 | refine qan fun _ => ?_
 | refine qao fun _ => ?_
 | refine qaq fun _ => ?_
 | refine qas fun _ => ?_
 | refine qat ?_ ?_
 | refine qav ?_ ?_
 | refine qay ?_ ?_
 | refine qba fun _ => ?_
 | refine qbb fun _ _ _ => ?_
 | refine qbc fun _ => ?_
 | refine qbd fun _ _ => ?_
 | refine qbe ?_
 | refine qbf fun _ => ?_
 | refine qbh fun _ _ => ?_
 | refine qbi fun _ => ?_
 | refine qbk fun _ => ?_
 | refine qbl fun _ => ?_
 | refine qbo ?_
 | refine qbp ?_
 | refine qbq ?_ ?_
 | exact id
  · exact H.elim
noncomputable def e_cy : Ent P := ⟨f_cu, 51, 26535224407301820417, d_cy, k_cy⟩
noncomputable def d_do : BodyT := fun C D a h Q => match a with
  | [.string s1] => D f_do 3 6296577 [.string s1, .slice none 0 0, .bool true] h Q
  | _ => False
theorem k_do : KE P d_do f_do 0 0 := by
  intro C D hC hD a h Q H
  unfold d_do at H
  split at H
  · show EvQ P f_do _ h Q
    refine r_do ?_
    revert H
    repeat' with_reducible first
 | refine qag hD (by decide)
 | exact id
  · exact H.elim
noncomputable def e_do : Ent P := ⟨f_do, 0, 0, d_do, k_do⟩
noncomputable def d_dr : BodyT := fun C D a h Q => match a with
  | [.string s1, .slice p2 m3 m4, .bool b5] => fN m3 fun m3 => fN m4 fun m4 => fB b5 fun b5 => bCE b5 (C f_f4 [.string s1, .string (ByteArray.mk #[47])] h fun v6 h7 => vTupE v6 fun l8 => lCE l8 fun v9 l10 => vStrE v9 fun s11 => lCE l10 fun v12 l13 => vStrE v12 fun s14 => lCE l13 fun v15 l16 => vBoolE v15 fun b17 => lNE l16 (bEqC s11 (ByteArray.mk #[]) (D f_do 3 6296577 [.string s14, .slice p2 m3 m4, .bool b17] h7 Q) (bEqC s11 (ByteArray.mk #[46]) (D f_do 3 6296577 [.string s14, .slice p2 m3 m4, .bool b17] h7 Q) (D f_do 12 19798731789313 [.string s14, .slice p2 m3 m4, .bool b17, .string s11, .string s11] h7 Q)))) (D f_do 18 45122967314437 [.slice p2 m3 m4, .int .i64 (Int.negSucc 0), .slice p2 m3 m4, .int .i64 (↑m3 : Int), .int .i64 0] h Q)
  | _ => False
theorem k_dr : KE P d_dr f_do 4 6296577 := by
  intro C D hC hD a h Q H
  unfold d_dr at H
  split at H
  · show unitAt P f_do 3 (decL 6296577) _ h Q
    rw [show decL 6296577 = [0, 4, 5] from by decide]
    refine r_dr ?_
    revert H
    repeat' with_reducible first
 | refine qad ?_
 | refine qae ?_
 | refine qaf hC fun _ _ => ?_
 | refine qag hD (by decide)
 | refine qaz ?_ ?_
 | refine qba fun _ => ?_
 | refine qbc fun _ => ?_
 | refine qbd fun _ _ => ?_
 | refine qbe ?_
 | refine qbf fun _ => ?_
 | refine qbo ?_
 | refine qbp ?_
 | refine qbq ?_ ?_
 | exact id
  · exact H.elim
noncomputable def e_dr : Ent P := ⟨f_do, 4, 6296577, d_dr, k_dr⟩
noncomputable def d_dp : BodyT := fun C D a h Q => match a with
  | [.string s1, .slice p2 m3 m4, .bool b5, .string s6, .string s7] => fN m3 fun m3 => fN m4 fun m4 => fB b5 fun b5 => bEqC s7 (ByteArray.mk #[46, 46]) (eqC (↑m3 : Int) 0 (Q (.tuple (Array.mk [.string (ByteArray.mk #[]), .int .i64 2])) h) (nBnd (wI64 (subI (↑m3 : Int) 1)) m4 fun m8 => bCE (Nat.ble m8 m4) (oQ (shO p2 0) fun p9 => D f_do 3 6296577 [.string s1, .slice p9 (m8 - 0) (m4 - 0), .bool b5] h Q) (False))) (C f_dt [.string s6] h fun v10 h11 => vBoolE v10 fun b12 => bCE (!b12) (Q (.tuple (Array.mk [.string (ByteArray.mk #[]), .int .i64 2])) h11) (addKL h11 [.string s6] (.node .nil (some (.string s6)) .nil) 1 fun h_1 => nxK h11 fun i_2 => apK ty_string 1 16 h_1 (.slice p2 m3 m4) (.slice (some ⟨i_2, 0, none⟩) 1 1) fun v13 h14 => vSlE v13 fun p15 m16 m17 => D f_do 3 6296577 [.string s1, .slice p15 m16 m17, .bool b5] h14 Q))
  | _ => False
theorem k_dp : KE P d_dp f_do 13 19798731789313 := by
  intro C D hC hD a h Q H
  unfold d_dp at H
  split at H
  · show unitAt P f_do 12 (decL 19798731789313) _ h Q
    rw [show decL 19798731789313 = [0, 4, 5, 6, 17] from by decide]
    refine r_dp ?_
    simp only [wI64_eq, subI_eq] at H
    revert H
    repeat' with_reducible first
 | refine qbr ti_ty_sl_string rfl ti_ty_string rfl rfl rfl ti_ty_sl_string rfl fun _ _ => ?_
 | refine qad ?_
 | refine qae ?_
 | refine qaf hC fun _ _ => ?_
 | refine qag hD (by decide)
 | refine qah (by with_unfolding_all rfl) (by with_unfolding_all rfl) ?_
 | refine qai ?_
 | refine qar fun _ => ?_
 | refine qax ?_ ?_
 | refine qaz ?_ ?_
 | refine qbb fun _ _ _ => ?_
 | refine qbc fun _ => ?_
 | refine qbn fun _ => ?_
 | refine qbo ?_
 | refine qbp ?_
 | refine qbq ?_ ?_
 | exact id
  · exact H.elim
noncomputable def e_dp : Ent P := ⟨f_do, 13, 19798731789313, d_dp, k_dp⟩
noncomputable def d_dq : BodyT := fun C D a h Q => match a with
  | [.slice p1 m2 m3, .int .i64 n4, .slice p5 m6 m7, .int .i64 n8, .int .i64 n9] => fN m2 fun m2 => fN m3 fun m3 => fI n4 fun n4 => fN m6 fun m6 => fN m7 fun m7 => fI n8 fun n8 => fI n9 fun n9 => ltC n9 n8 (aPE p5 fun m10 m11 => nIdx n9 m6 fun m12 => rdK h m10 (m11 + m12 * 1) fun v13 => vStrE v13 fun s14 => D f_do 18 45122967314437 [.slice p1 m2 m3, .int .i64 (wI64 (addI n4 (wI64 (addI (↑(szE s14) : Int) 1)))), .slice p5 m6 m7, .int .i64 n8, .int .i64 (wI64 (addI n9 1))] h Q) (ltC n4 0 (Q (.tuple (Array.mk [.string (ByteArray.mk #[]), .int .i64 2])) h) (gtC n4 60 (Q (.tuple (Array.mk [.string (ByteArray.mk #[]), .int .i64 3])) h) (C f_fa [.slice p1 m2 m3, .string (ByteArray.mk #[47])] h fun v15 h16 => vStrE v15 fun s17 => Q (.tuple (Array.mk [.string s17, .int .i64 0])) h16)))
  | _ => False
theorem k_dq : KE P d_dq f_do 19 45122967314437 := by
  intro C D hC hD a h Q H
  unfold d_dq at H
  split at H
  · show unitAt P f_do 18 (decL 45122967314437) _ h Q
    rw [show decL 45122967314437 = [4, 7, 38, 39, 40] from by decide]
    refine r_dq ?_
    simp only [wI64_eq, addI_eq, szE_eq] at H
    revert H
    repeat' with_reducible first
 | refine qac ?_
 | refine qad ?_
 | refine qaf hC fun _ _ => ?_
 | refine qag hD (by decide)
 | refine qam fun _ => ?_
 | refine qaq fun _ => ?_
 | refine qat ?_ ?_
 | refine qav ?_ ?_
 | refine qba fun _ => ?_
 | refine qbh fun _ _ => ?_
 | exact id
  · exact H.elim
noncomputable def e_dq : Ent P := ⟨f_do, 19, 45122967314437, d_dq, k_dq⟩
noncomputable def d_dj : BodyT := fun C D a h Q => match a with
  | [.pointer p1, .int .i64 n2] => fI n2 fun n2 => aPE p1 fun m3 m4 => rdK h m3 (m4 + 1) fun v5 => vSlE v5 fun p6 m7 m8 => oQ (capB P h (Array.mk [ty_sl_uint8]) [.slice p6 m7 m8]) fun v9 => vIntE' .i64 v9 fun n10 => C f_bf [.int .i64 (wI64 (addI (wI64 (2 * n10)) n2))] h fun v11 h12 => vSlE v11 fun p13 m14 m15 => aPE p1 fun m16 m17 => rdK h12 m16 (m17 + 1) fun v18 => vSlE v18 fun p19 m20 m21 => nBnd (↑m20 : Int) m15 fun m22 => bCE (Nat.ble m22 m15) (oQ (shO p13 0) fun p23 => rdK h m16 (m17 + 1) fun v24 => vSlE v24 fun p25 m26 m27 => bCE (sameB (.slice p25 m26 m27) (.slice p19 m20 m21)) (bCE (sameB (.int .i64 (↑m20 : Int)) (.int .i64 (↑m20 : Int))) (aPE p1 fun m28 m29 => rdK h12 m28 (m29 + 1) fun v30 => vSlE v30 fun p31 m32 m33 => oPK (copyB P h12 (Array.mk [ty_sl_uint8, ty_sl_uint8]) [.slice p23 (m22 - 0) (m15 - 0), .slice p31 m32 m33]) fun v34 h35 => vIntE' .i64 v34 fun n36 => aPE p1 fun m37 m38 => wrK h35 m37 (m38 + 1) (.slice p23 (m22 - 0) (m15 - 0)) fun h39 => Q (.tuple (Array.mk [])) h39) False) False) (False)
  | _ => False
theorem k_dj : KE P d_dj f_dj 0 0 := by
  intro C D hC hD a h Q H
  unfold d_dj at H
  split at H
  · show EvQ P f_dj _ h Q
    refine r_dj ?_
    simp only [wI64_eq, addI_eq] at H
    revert H
    repeat' with_reducible first
 | refine qac ?_
 | refine qaf hC fun _ _ => ?_
 | refine qam fun _ => ?_
 | refine qan fun _ => ?_
 | refine qar fun _ => ?_
 | refine qas fun _ => ?_
 | refine qbb fun _ _ _ => ?_
 | refine qbg fun _ _ => ?_
 | refine qbh fun _ _ => ?_
 | refine qbn fun _ => ?_
 | refine qbo ?_
 | refine qbp ?_
 | refine qbq ?_ ?_
 | exact id
  · exact H.elim
noncomputable def e_dj : Ent P := ⟨f_dj, 0, 0, d_dj, k_dj⟩
noncomputable def d_c3 : BodyT := fun C D a h Q => match a with
  | [.string s1] => C f_c0 [.string s1] h fun v2 h3 => vBoolE v2 fun b4 => bCE b4 (Q (.string s1) h3) (C f_c2 [.string s1] h3 fun v5 h6 => vStrE v5 fun s7 => Q (.string s7) h6)
  | _ => False
theorem k_c3 : KE P d_c3 f_c3 0 0 := by
  intro C D hC hD a h Q H
  unfold d_c3 at H
  split at H
  · show EvQ P f_c3 _ h Q
    refine r_c3 ?_
    revert H
    repeat' with_reducible first
 | refine qaf hC fun _ _ => ?_
 | refine qba fun _ => ?_
 | refine qbc fun _ => ?_
 | refine qbo ?_
 | refine qbp ?_
 | refine qbq ?_ ?_
 | exact id
  · exact H.elim
noncomputable def e_c3 : Ent P := ⟨f_c3, 0, 0, d_c3, k_c3⟩
noncomputable def d_c0 : BodyT := fun C D a h Q => match a with
  | [.string s1] => D f_c0 2 7346177 [.string s1, .int .i64 (↑(szE s1) : Int), .int .i64 0] h Q
  | _ => False
theorem k_c0 : KE P d_c0 f_c0 0 0 := by
  intro C D hC hD a h Q H
  unfold d_c0 at H
  split at H
  · show EvQ P f_c0 _ h Q
    refine r_c0 ?_
    simp only [szE_eq] at H
    revert H
    repeat' with_reducible first
 | refine qag hD (by decide)
 | exact id
  · exact H.elim
noncomputable def e_c0 : Ent P := ⟨f_c0, 0, 0, d_c0, k_c0⟩
noncomputable def d_c1 : BodyT := fun C D a h Q => match a with
  | [.string s1, .int .i64 n2, .int .i64 n3] => fI n2 fun n2 => fI n3 fun n3 => ltC n3 n2 (nIdx n3 (szE s1) fun m4 => bAtK s1 m4 fun n5 => C f_c4 [.int .u8 n5] h fun v6 h7 => vBoolE v6 fun b8 => bCE (!b8) (Q (.bool false) h7) (D f_c0 2 7346177 [.string s1, .int .i64 n2, .int .i64 (wI64 (addI n3 1))] h7 Q)) (Q (.bool !bEq s1 (ByteArray.mk #[])) h)
  | _ => False
theorem k_c1 : KE P d_c1 f_c0 3 7346177 := by
  intro C D hC hD a h Q H
  unfold d_c1 at H
  split at H
  · show unitAt P f_c0 2 (decL 7346177) _ h Q
    rw [show decL 7346177 = [0, 5, 6] from by decide]
    refine r_c1 ?_
    simp only [wI64_eq, addI_eq, szE_eq] at H
    revert H
    repeat' with_reducible first
 | refine qac ?_
 | refine qaf hC fun _ _ => ?_
 | refine qag hD (by decide)
 | refine qap fun _ => ?_
 | refine qaq fun _ => ?_
 | refine qat ?_ ?_
 | refine qbc fun _ => ?_
 | refine qbo ?_
 | refine qbp ?_
 | refine qbq ?_ ?_
 | exact id
  · exact H.elim
noncomputable def e_c1 : Ent P := ⟨f_c0, 3, 7346177, d_c1, k_c1⟩
noncomputable def d_br : BodyT := fun C D a h Q => match a with
  | [.agg (Array.mk [.string s1, .slice p2 m3 m4, .slice p5 m6 m7]), .string s8] => fN m3 fun m3 => fN m4 fun m4 => fN m6 fun m6 => fN m7 fun m7 => addKL h [.string s1, .slice p2 m3 m4, .slice p5 m6 m7] (.node (.node .nil (some (.slice p2 m3 m4)) .nil) (some (.string s1)) (.node .nil (some (.slice p5 m6 m7)) .nil)) 3 fun h_1 => addKL h_1 [.string (ByteArray.mk #[]), .slice none 0 0, .slice none 0 0, .slice none 0 0] (.node (.node (.node .nil (some (.slice none 0 0)) .nil) (some (.slice none 0 0)) .nil) (some (.string (ByteArray.mk #[]))) (.node .nil (some (.slice none 0 0)) .nil)) 4 fun h_2 => nxK h fun i_3 => rdK h_2 i_3 0 fun v9 => vStrE v9 fun s10 => C f_dn [.string s10, .string s8] h_2 fun v11 h12 => vTupE v11 fun l13 => lCE l13 fun v14 l15 => vStrE v14 fun s16 => lCE l15 fun v17 l18 => vBoolE v17 fun b19 => lNE l18 (bCE (!b19) (nxK h_1 fun i_4 => wrLK i_4 [.string (ByteArray.mk #[]), .slice none 0 0, .slice none 0 0, .slice none 0 0] h12 0 fun h20 => rdK h20 i_4 0 fun v21 => vStrE v21 fun s22 => rdK h20 i_4 1 fun v23 => vSlE v23 fun p24 m25 m26 => rdK h20 i_4 2 fun v27 => vSlE v27 fun p28 m29 m30 => rdK h20 i_4 3 fun v31 => vSlE v31 fun p32 m33 m34 => Q (.tuple (Array.mk [.agg (Array.mk [.string s22, .slice p24 m25 m26, .slice p28 m29 m30, .slice p32 m33 m34]), .bool false])) h20) (addKL h12 [.string s8] (.node .nil (some (.string s8)) .nil) 1 fun h_5 => addKL h_5 [.string (ByteArray.mk #[]), .slice none 0 0, .slice none 0 0, .slice none 0 0] (.node (.node (.node .nil (some (.slice none 0 0)) .nil) (some (.slice none 0 0)) .nil) (some (.string (ByteArray.mk #[]))) (.node .nil (some (.slice none 0 0)) .nil)) 4 fun h_6 => nxK h_5 fun i_7 => nxK h12 fun i_8 => wrLK i_7 [.string s8, .slice (some ⟨i_8, 0, none⟩) 1 1, .slice none 0 0, .slice none 0 0] h_6 0 fun h35 => rdK h35 i_3 1 fun v36 => vSlE v36 fun p37 m38 m39 => nxK h_1 fun i_9 => D f_br 6 45006763567728301059 [.pointer (some ⟨i_3, 0, none⟩), .pointer (some ⟨i_9, 0, none⟩), .string s16, .pointer (some ⟨i_7, 0, none⟩), .slice p37 m38 m39, .int .i64 (↑m38 : Int), .int .i64 0] h35 Q))
  | _ => False
theorem k_br : KE P d_br f_br 0 0 := by
  intro C D hC hD a h Q H
  unfold d_br at H
  split at H
  · show EvQ P f_br _ h Q
    refine r_br ?_
    revert H
    repeat' with_reducible first
 | refine qad ?_
 | refine qaf hC fun _ _ => ?_
 | refine qag hD (by decide)
 | refine qah (by with_unfolding_all rfl) (by with_unfolding_all rfl) ?_
 | refine qai ?_
 | refine qam fun _ => ?_
 | refine qao fun _ => ?_
 | refine qba fun _ => ?_
 | refine qbb fun _ _ _ => ?_
 | refine qbc fun _ => ?_
 | refine qbd fun _ _ => ?_
 | refine qbe ?_
 | refine qbf fun _ => ?_
 | refine qbo ?_
 | refine qbp ?_
 | refine qbq ?_ ?_
 | exact id
  · exact H.elim
noncomputable def e_br : Ent P := ⟨f_br, 0, 0, d_br, k_br⟩
noncomputable def d_bt : BodyT := fun C D a h Q => match a with
  | [.pointer (some ⟨m1, 0, none⟩), .pointer (some ⟨m2, 0, none⟩), .string s3, .pointer (some ⟨m4, 0, none⟩), .slice p5 m6 m7, .int .i64 n8, .int .i64 n9] => fN m1 fun m1 => fN m2 fun m2 => fN m4 fun m4 => fN m6 fun m6 => fN m7 fun m7 => fI n8 fun n8 => fI n9 fun n9 => ltC n9 n8 (aPE p5 fun m10 m11 => nIdx n9 m6 fun m12 => rdK h m10 (m11 + m12 * 1) fun v13 => vStrE v13 fun s14 => C f_dk [.string s14, .string s3] h fun v15 h16 => vStrE v15 fun s17 => C f_do [.string s17] h16 fun v18 h19 => vTupE v18 fun l20 => lCE l20 fun v21 l22 => vStrE v21 fun s23 => lCE l22 fun v24 l25 => vIntE' .i64 v24 fun n26 => lNE l25 (neC n26 0 (wrLK m2 [.string (ByteArray.mk #[]), .slice none 0 0, .slice none 0 0, .slice none 0 0] h19 0 fun h27 => rdK h27 m2 0 fun v28 => vStrE v28 fun s29 => rdK h27 m2 1 fun v30 => vSlE v30 fun p31 m32 m33 => rdK h27 m2 2 fun v34 => vSlE v34 fun p35 m36 m37 => rdK h27 m2 3 fun v38 => vSlE v38 fun p39 m40 m41 => Q (.tuple (Array.mk [.agg (Array.mk [.string s29, .slice p31 m32 m33, .slice p35 m36 m37, .slice p39 m40 m41]), .bool false])) h27) (rdK h19 m4 2 fun v42 => vSlE v42 fun p43 m44 m45 => C f_e7 [.slice p43 m44 m45, .string s23] h19 fun v46 h47 => vBoolE v46 fun b48 => bCE (!b48) (rdK h47 m4 2 fun v49 => vSlE v49 fun p50 m51 m52 => addKL h47 [.string s23] (.node .nil (some (.string s23)) .nil) 1 fun h_1 => nxK h47 fun i_2 => apK ty_string 1 16 h_1 (.slice p50 m51 m52) (.slice (some ⟨i_2, 0, none⟩) 1 1) fun v53 h54 => vSlE v53 fun p55 m56 m57 => wrK h54 m4 2 (.slice p55 m56 m57) fun h58 => D f_br 6 45006763567728301059 [.pointer (some ⟨m1, 0, none⟩), .pointer (some ⟨m2, 0, none⟩), .string s3, .pointer (some ⟨m4, 0, none⟩), .slice p5 m6 m7, .int .i64 n8, .int .i64 (wI64 (addI n9 1))] h58 Q) (D f_br 6 45006763567728301059 [.pointer (some ⟨m1, 0, none⟩), .pointer (some ⟨m2, 0, none⟩), .string s3, .pointer (some ⟨m4, 0, none⟩), .slice p5 m6 m7, .int .i64 n8, .int .i64 (wI64 (addI n9 1))] h47 Q)))) (rdK h m1 2 fun v59 => vSlE v59 fun p60 m61 m62 => D f_br 16 78474170189833313285 [.pointer (some ⟨m2, 0, none⟩), .string s3, .pointer (some ⟨m4, 0, none⟩), .slice none 0 0, .slice p60 m61 m62, .int .i64 (↑m61 : Int), .int .i64 0] h Q)
  | _ => False
theorem k_bt : KE P d_bt f_br 7 45006763567728301059 := by
  intro C D hC hD a h Q H
  unfold d_bt at H
  split at H
  · show unitAt P f_br 6 (decL 45006763567728301059) _ h Q
    rw [show decL 45006763567728301059 = [2, 4, 6, 8, 36, 37, 38] from by decide]
    refine r_bt ?_
    simp only [wI64_eq, addI_eq] at H
    revert H
    repeat' with_reducible first
 | refine qbr ti_ty_sl_string rfl ti_ty_string rfl rfl rfl ti_ty_sl_string rfl fun _ _ => ?_
 | refine qac ?_
 | refine qad ?_
 | refine qaf hC fun _ _ => ?_
 | refine qag hD (by decide)
 | refine qah (by with_unfolding_all rfl) (by with_unfolding_all rfl) ?_
 | refine qai ?_
 | refine qam fun _ => ?_
 | refine qan fun _ => ?_
 | refine qao fun _ => ?_
 | refine qaq fun _ => ?_
 | refine qas fun _ => ?_
 | refine qat ?_ ?_
 | refine qay ?_ ?_
 | refine qba fun _ => ?_
 | refine qbb fun _ _ _ => ?_
 | refine qbc fun _ => ?_
 | refine qbd fun _ _ => ?_
 | refine qbe ?_
 | refine qbf fun _ => ?_
 | refine qbh fun _ _ => ?_
 | refine qbo ?_
 | refine qbp ?_
 | refine qbq ?_ ?_
 | exact id
  · exact H.elim
noncomputable def e_bt : Ent P := ⟨f_br, 7, 45006763567728301059, d_bt, k_bt⟩
noncomputable def d_bs : BodyT := fun C D a h Q => match a with
  | [.pointer (some ⟨m1, 0, none⟩), .string s2, .pointer (some ⟨m3, 0, none⟩), .slice p4 m5 m6, .slice p7 m8 m9, .int .i64 n10, .int .i64 n11] => fN m1 fun m1 => fN m3 fun m3 => fN m5 fun m5 => fN m6 fun m6 => fN m8 fun m8 => fN m9 fun m9 => fI n10 fun n10 => fI n11 fun n11 => ltC n11 n10 (aPE p7 fun m12 m13 => nIdx n11 m8 fun m14 => rdK h m12 (m13 + m14 * 1) fun v15 => vSlE v15 fun p16 m17 m18 => D f_br 20 93896601162773371001817470606341 [.pointer (some ⟨m1, 0, none⟩), .string s2, .pointer (some ⟨m3, 0, none⟩), .slice p4 m5 m6, .slice none 0 0, .slice p7 m8 m9, .int .i64 n10, .int .i64 n11, .slice p16 m17 m18, .int .i64 (↑m17 : Int), .int .i64 0] h Q) (C f_a3 [.slice p4 m5 m6] h fun v19 h20 => vTupE v19 fun l21 => lCE l21 fun v22 l23 => vSlE v22 fun p24 m25 m26 => lCE l23 fun v27 l28 => vAggE v27 fun l29 => lCE l29 fun v30 l31 => vIntE' .i64 v30 fun n32 => lCE l31 fun v33 l34 => vIntE' .i64 v33 fun n35 => lNE l34 (lNE l28 (addKL h20 [.int .i64 0, .int .i64 0] (.node (.node .nil (some (.int .i64 0)) .nil) (some (.int .i64 0)) .nil) 2 fun h_1 => nxK h20 fun i_2 => wrLK i_2 [.int .i64 n32, .int .i64 n35] h_1 0 fun h36 => wrK h36 m3 3 (.slice p24 m25 m26) fun h37 => rdK h37 i_2 0 fun v38 => vIntE' .i64 v38 fun n39 => neC n39 0 (wrLK m1 [.string (ByteArray.mk #[]), .slice none 0 0, .slice none 0 0, .slice none 0 0] h37 0 fun h40 => rdK h40 m1 0 fun v41 => vStrE v41 fun s42 => rdK h40 m1 1 fun v43 => vSlE v43 fun p44 m45 m46 => rdK h40 m1 2 fun v47 => vSlE v47 fun p48 m49 m50 => rdK h40 m1 3 fun v51 => vSlE v51 fun p52 m53 m54 => Q (.tuple (Array.mk [.agg (Array.mk [.string s42, .slice p44 m45 m46, .slice p48 m49 m50, .slice p52 m53 m54]), .bool false])) h40) (rdK h37 m3 0 fun v55 => vStrE v55 fun s56 => rdK h37 m3 1 fun v57 => vSlE v57 fun p58 m59 m60 => rdK h37 m3 2 fun v61 => vSlE v61 fun p62 m63 m64 => rdK h37 m3 3 fun v65 => vSlE v65 fun p66 m67 m68 => C f_bj [.agg (Array.mk [.string s56, .slice p58 m59 m60, .slice p62 m63 m64, .slice p66 m67 m68])] h37 fun v69 h70 => vStrE v69 fun s71 => gtC (↑(szE s71) : Int) 512 (wrLK m1 [.string (ByteArray.mk #[]), .slice none 0 0, .slice none 0 0, .slice none 0 0] h70 0 fun h72 => rdK h72 m1 0 fun v73 => vStrE v73 fun s74 => rdK h72 m1 1 fun v75 => vSlE v75 fun p76 m77 m78 => rdK h72 m1 2 fun v79 => vSlE v79 fun p80 m81 m82 => rdK h72 m1 3 fun v83 => vSlE v83 fun p84 m85 m86 => Q (.tuple (Array.mk [.agg (Array.mk [.string s74, .slice p76 m77 m78, .slice p80 m81 m82, .slice p84 m85 m86]), .bool false])) h72) (rdK h70 m3 0 fun v87 => vStrE v87 fun s88 => rdK h70 m3 1 fun v89 => vSlE v89 fun p90 m91 m92 => rdK h70 m3 2 fun v93 => vSlE v93 fun p94 m95 m96 => rdK h70 m3 3 fun v97 => vSlE v97 fun p98 m99 m100 => wrLK m1 [.string s88, .slice p90 m91 m92, .slice p94 m95 m96, .slice p98 m99 m100] h70 0 fun h101 => rdK h101 m1 0 fun v102 => vStrE v102 fun s103 => rdK h101 m1 1 fun v104 => vSlE v104 fun p105 m106 m107 => rdK h101 m1 2 fun v108 => vSlE v108 fun p109 m110 m111 => rdK h101 m1 3 fun v112 => vSlE v112 fun p113 m114 m115 => Q (.tuple (Array.mk [.agg (Array.mk [.string s103, .slice p105 m106 m107, .slice p109 m110 m111, .slice p113 m114 m115]), .bool true])) h101)))))
  | _ => False
theorem k_bs : KE P d_bs f_br 17 78474170189833313285 := by
  intro C D hC hD a h Q H
  unfold d_bs at H
  split at H
  · show unitAt P f_br 16 (decL 78474170189833313285) _ h Q
    rw [show decL 78474170189833313285 = [4, 6, 8, 13, 65, 66, 67] from by decide]
    refine r_bs ?_
    simp only [szE_eq] at H
    revert H
    repeat' with_reducible first
 | refine qac ?_
 | refine qad ?_
 | refine qaf hC fun _ _ => ?_
 | refine qag hD (by decide)
 | refine qah (by with_unfolding_all rfl) (by with_unfolding_all rfl) ?_
 | refine qai ?_
 | refine qam fun _ => ?_
 | refine qan fun _ => ?_
 | refine qao fun _ => ?_
 | refine qaq fun _ => ?_
 | refine qas fun _ => ?_
 | refine qat ?_ ?_
 | refine qav ?_ ?_
 | refine qay ?_ ?_
 | refine qba fun _ => ?_
 | refine qbb fun _ _ _ => ?_
 | refine qbd fun _ _ => ?_
 | refine qbe ?_
 | refine qbf fun _ => ?_
 | refine qbh fun _ _ => ?_
 | refine qbk fun _ => ?_
 | exact id
  · exact H.elim
noncomputable def e_bs : Ent P := ⟨f_br, 17, 78474170189833313285, d_bs, k_bs⟩
noncomputable def d_di : BodyT := fun C D a h Q => match a with
  | [.pointer p1] => aPE p1 fun m2 m3 => rdK h m2 m3 fun v4 => vPtrE v4 fun p5 => bCE (Option.isNone p5) (oPK (convA P h ty_p_strings_Builder ty_unsafe_Pointer (.pointer p1)) fun v6 h7 => vPtrE v6 fun p8 => C f_a0 [.pointer p8] h7 fun v9 h10 => vPtrE v9 fun p11 => oPK (convA P h10 ty_unsafe_Pointer ty_p_strings_Builder (.pointer p11)) fun v12 h13 => vPtrE v12 fun p14 => aPE p1 fun m15 m16 => wrK h13 m15 m16 (.pointer p14) fun h17 => Q (.tuple (Array.mk [])) h17) (aPE p1 fun m18 m19 => rdK h m18 m19 fun v20 => vPtrE v20 fun p21 => oQ (eqV P ty_p_strings_Builder false (.pointer p21) (.pointer p1)) fun b22 => bCE (!b22) (False) (Q (.tuple (Array.mk [])) h))
  | _ => False
theorem k_di : KE P d_di f_di 0 0 := by
  intro C D hC hD a h Q H
  unfold d_di at H
  split at H
  · show EvQ P f_di _ h Q
    refine r_di ?_
    revert H
    repeat' with_reducible first
 | refine qaf hC fun _ _ => ?_
 | refine qam fun _ => ?_
 | refine qan fun _ => ?_
 | refine qbg fun _ _ => ?_
 | refine qbh fun _ _ => ?_
 | refine qbi fun _ => ?_
 | refine qbn fun _ => ?_
 | refine qbo ?_
 | refine qbp ?_
 | refine qbq ?_ ?_
 | exact id
  · exact H.elim
noncomputable def e_di : Ent P := ⟨f_di, 0, 0, d_di, k_di⟩
noncomputable def d_dk : BodyT := fun C D a h Q => match a with
  | [.string s1, .string s2] => C f_fh [.string s1, .string (ByteArray.mk #[37]), .string s2] h fun v3 h4 => vStrE v3 fun s5 => Q (.string s5) h4
  | _ => False
theorem k_dk : KE P d_dk f_dk 0 0 := by
  intro C D hC hD a h Q H
  unfold d_dk at H
  split at H
  · show EvQ P f_dk _ h Q
    refine r_dk ?_
    revert H
    repeat' with_reducible first
 | refine qaf hC fun _ _ => ?_
 | refine qba fun _ => ?_
 | exact id
  · exact H.elim
noncomputable def e_dk : Ent P := ⟨f_dk, 0, 0, d_dk, k_dk⟩
noncomputable def d_f8 : BodyT := fun C D a h Q => match a with
  | [.string s1, .string s2] => C f_fv [.string s1, .string s2] h fun v3 h4 => vIntE' .i64 v3 fun n5 => Q (.int .i64 n5) h4
  | _ => False
theorem k_f8 : KE P d_f8 f_f8 0 0 := by
  intro C D hC hD a h Q H
  unfold d_f8 at H
  split at H
  · show EvQ P f_f8 _ h Q
    refine r_f8 ?_
    revert H
    repeat' with_reducible first
 | refine qaf hC fun _ _ => ?_
 | refine qas fun _ => ?_
 | exact id
  · exact H.elim
noncomputable def e_f8 : Ent P := ⟨f_f8, 0, 0, d_f8, k_f8⟩
end
end Go.Proofs.YtamoepfiodgbbaaGreatDoor.E
end

section
/- Bodies that the kernel can run, printed by a program of ours. -/
namespace Go.Proofs.YtamoepfiodgbbaaGreatDoor.E
open Go.Abs
set_option maxRecDepth 100000
set_option maxHeartbeats 4000000
section
noncomputable def d_af : BodyT := fun C D a h Q => match a with
  | [.slice p1 m2 m3] => fN m2 fun m2 => fN m3 fun m3 => D f_af 3 10746863620 [.slice none 0 0, .slice p1 m2 m3, .int .i64 (↑m2 : Int), .int .i64 0] h Q
  | _ => False
theorem k_af : KE P d_af f_af 0 0 := by
  intro C D hC hD a h Q H
  unfold d_af at H
  split at H
  · show EvQ P f_af _ h Q
    refine r_af ?_
    revert H
    repeat' with_reducible first
 | refine qad ?_
 | refine qag hD (by decide)
 | exact id
  · exact H.elim
noncomputable def e_af : Ent P := ⟨f_af, 0, 0, d_af, k_af⟩
noncomputable def d_ag : BodyT := fun C D a h Q => match a with
  | [.slice p1 m2 m3, .slice p4 m5 m6, .int .i64 n7, .int .i64 n8] => fN m2 fun m2 => fN m3 fun m3 => fN m5 fun m5 => fN m6 fun m6 => fI n7 fun n7 => fI n8 fun n8 => ltC n8 n7 (aPE p4 fun m9 m10 => nIdx n8 m5 fun m11 => rdK h m9 (m10 + m11 * 4) fun v12 => vIntE' .i64 v12 fun n13 => rdK h m9 (m10 + m11 * 4 + 1) fun v14 => vSlE v14 fun p15 m16 m17 => rdK h m9 (m10 + m11 * 4 + 1 + 1) fun v18 => vIntE' .i64 v18 fun n19 => rdK h m9 (m10 + m11 * 4 + 1 + 1 + 1) fun v20 => vSlE v20 fun p21 m22 m23 => addKL h [.int .i64 0, .slice none 0 0, .int .i64 0, .slice none 0 0] (.node (.node (.node .nil (some (.slice none 0 0)) .nil) (some (.slice none 0 0)) .nil) (some (.int .i64 0)) (.node .nil (some (.int .i64 0)) .nil)) 4 fun h_1 => nxK h fun i_2 => wrLK i_2 [.int .i64 n13, .slice p15 m16 m17, .int .i64 n19, .slice p21 m22 m23] h_1 0 fun h24 => rdK h24 i_2 0 fun v25 => vIntE' .i64 v25 fun n26 => C f_ao [.int .i64 n26] h24 fun v27 h28 => vStrE v27 fun s29 => addKL h28 [.string s29] (.node .nil (some (.string s29)) .nil) 1 fun h_3 => rdK h_3 i_2 1 fun v30 => vSlE v30 fun p31 m32 m33 => nxK h28 fun i_4 => apK ty_string 1 16 h_3 (.slice (some ⟨i_4, 0, none⟩) 1 1) (.slice p31 m32 m33) fun v34 h35 => vSlE v34 fun p36 m37 m38 => rdK h24 i_2 1 fun v39 => vSlE v39 fun p40 m41 m42 => bCE (sameB (.slice p40 m41 m42) (.slice p31 m32 m33)) (rdK h28 i_2 1 fun v43 => vSlE v43 fun p44 m45 m46 => bCE (sameB (.slice p44 m45 m46) (.slice p31 m32 m33)) (rdK h35 i_2 0 fun v47 => vIntE' .i64 v47 fun n48 => eqC n48 10 (rdK h35 i_2 2 fun v49 => vIntE' .i64 v49 fun n50 => C f_ek [.int .i64 n50] h35 fun v51 h52 => vStrE v51 fun s53 => addKL h52 [.string s53] (.node .nil (some (.string s53)) .nil) 1 fun h_5 => nxK h52 fun i_6 => apK ty_string 1 16 h_5 (.slice p36 m37 m38) (.slice (some ⟨i_6, 0, none⟩) 1 1) fun v54 h55 => vSlE v54 fun p56 m57 m58 => D f_af 8 11268903270356996 [.slice p1 m2 m3, .pointer (some ⟨i_2, 0, none⟩), .slice p56 m57 m58, .slice p4 m5 m6, .int .i64 n7, .int .i64 n8] h55 Q) (D f_af 8 11268903270356996 [.slice p1 m2 m3, .pointer (some ⟨i_2, 0, none⟩), .slice p36 m37 m38, .slice p4 m5 m6, .int .i64 n7, .int .i64 n8] h35 Q)) False) False) (Q (.slice p1 m2 m3) h)
  | _ => False
theorem k_ag : KE P d_ag f_af 4 10746863620 := by
  intro C D hC hD a h Q H
  unfold d_ag at H
  split at H
  · show unitAt P f_af 3 (decL 10746863620) _ h Q
    rw [show decL 10746863620 = [3, 7, 8, 9] from by decide]
    refine r_ag ?_
    revert H
    repeat' with_reducible first
 | refine qbr ti_ty_sl_string rfl ti_ty_string rfl rfl rfl ti_ty_sl_string rfl fun _ _ => ?_
 | refine qac ?_
 | refine qad ?_
 | refine qaf hC fun _ _ => ?_
 | refine qag hD (by decide)
 | refine qah (by with_unfolding_all rfl) (by with_unfolding_all rfl) ?_
 | refine qai ?_
 | refine qam fun _ => ?_
 | refine qao fun _ => ?_
 | refine qaq fun _ => ?_
 | refine qas fun _ => ?_
 | refine qat ?_ ?_
 | refine qax ?_ ?_
 | refine qba fun _ => ?_
 | refine qbb fun _ _ _ => ?_
 | refine qbh fun _ _ => ?_
 | refine qbo ?_
 | refine qbp ?_
 | refine qbq ?_ ?_
 | exact id
  · exact H.elim
noncomputable def e_ag : Ent P := ⟨f_af, 4, 10746863620, d_ag, k_ag⟩
noncomputable def d_ah : BodyT := fun C D a h Q => match a with
  | [.slice p1 m2 m3, .pointer (some ⟨m4, 0, none⟩), .slice p5 m6 m7, .slice p8 m9 m10, .int .i64 n11, .int .i64 n12] => fN m2 fun m2 => fN m3 fun m3 => fN m4 fun m4 => fN m6 fun m6 => fN m7 fun m7 => fN m9 fun m9 => fN m10 fun m10 => fI n11 fun n11 => fI n12 fun n12 => addKL h [.slice p5 m6 m7] (.node .nil (some (.slice p5 m6 m7)) .nil) 1 fun h_1 => nxK h fun i_2 => apK ty_sl_string 1 24 h_1 (.slice p1 m2 m3) (.slice (some ⟨i_2, 0, none⟩) 1 1) fun v13 h14 => vSlE v13 fun p15 m16 m17 => rdK h14 m4 0 fun v18 => vIntE' .i64 v18 fun n19 => C f_aj [.int .i64 n19] h14 fun v20 h21 => vBoolE v20 fun b22 => bCE b22 (rdK h21 m4 3 fun v23 => vSlE v23 fun p24 m25 m26 => C f_af [.slice p24 m25 m26] h21 fun v27 h28 => vSlE v27 fun p29 m30 m31 => apK ty_sl_string 1 24 h28 (.slice p15 m16 m17) (.slice p29 m30 m31) fun v32 h33 => vSlE v32 fun p34 m35 m36 => addKL h33 [.string (ByteArray.mk #[101, 110, 100])] (.node .nil (some (.string (ByteArray.mk #[101, 110, 100]))) .nil) 1 fun h_3 => nxK h33 fun i_4 => addKL h_3 [.slice (some ⟨i_4, 0, none⟩) 1 1] (.node .nil (some (.slice (some ⟨i_4, 0, none⟩) 1 1)) .nil) 1 fun h_5 => nxK h_3 fun i_6 => apK ty_sl_string 1 24 h_5 (.slice p34 m35 m36) (.slice (some ⟨i_6, 0, none⟩) 1 1) fun v37 h38 => vSlE v37 fun p39 m40 m41 => D f_af 3 10746863620 [.slice p39 m40 m41, .slice p8 m9 m10, .int .i64 n11, .int .i64 (wI64 (addI n12 1))] h38 Q) (D f_af 3 10746863620 [.slice p15 m16 m17, .slice p8 m9 m10, .int .i64 n11, .int .i64 (wI64 (addI n12 1))] h21 Q)
  | _ => False
theorem k_ah : KE P d_ah f_af 9 11268903270356996 := by
  intro C D hC hD a h Q H
  unfold d_ah at H
  split at H
  · show unitAt P f_af 8 (decL 11268903270356996) _ h Q
    rw [show decL 11268903270356996 = [3, 5, 6, 7, 8, 9] from by decide]
    refine r_ah ?_
    simp only [wI64_eq, addI_eq] at H
    revert H
    repeat' with_reducible first
 | refine qbr ti_ty_sl_sl_string rfl ti_ty_sl_string rfl rfl rfl ti_ty_sl_sl_string rfl fun _ _ => ?_
 | refine qac ?_
 | refine qad ?_
 | refine qaf hC fun _ _ => ?_
 | refine qag hD (by decide)
 | refine qah (by with_unfolding_all rfl) (by with_unfolding_all rfl) ?_
 | refine qai ?_
 | refine qam fun _ => ?_
 | refine qas fun _ => ?_
 | refine qbb fun _ _ _ => ?_
 | refine qbc fun _ => ?_
 | refine qbo ?_
 | refine qbp ?_
 | refine qbq ?_ ?_
 | exact id
  · exact H.elim
noncomputable def e_ah : Ent P := ⟨f_af, 9, 11268903270356996, d_ah, k_ah⟩
noncomputable def d_bn : BodyT := fun C D a h Q => match a with
  | [.func (Fn.func m1) x2 x3, .string s4] => fN m1 fun m1 => addKL h [.int .i64 0, .string (ByteArray.mk #[]), .int .i64 0, .int .i64 0] (.node (.node (.node .nil (some (.int .i64 0)) .nil) (some (.string (ByteArray.mk #[]))) .nil) (some (.int .i64 0)) (.node .nil (some (.int .i64 0)) .nil)) 4 fun h_1 => C f_dl [.string s4] h_1 fun v5 h6 => vBoolE v5 fun b7 => bCE (!b7) (nxK h fun i_2 => wrLK i_2 [.int .i64 2, .string s4, .int .i64 0, .int .i64 0] h6 0 fun h8 => rdK h8 i_2 0 fun v9 => vIntE' .i64 v9 fun n10 => rdK h8 i_2 1 fun v11 => vStrE v11 fun s12 => rdK h8 i_2 2 fun v13 => vIntE' .i64 v13 fun n14 => rdK h8 i_2 3 fun v15 => vIntE' .i64 v15 fun n16 => Q (.tuple (Array.mk [.pointer none, .agg (Array.mk [.int .i64 n10, .string s12, .int .i64 n14, .int .i64 n16])])) h8) (C m1 (Array.toList x2 ++ .string s4 :: Array.toList x3) h6 fun v17 h18 => vTupE v17 fun l19 => lCE l19 fun v20 l21 => vStrE v20 fun s22 => lCE l21 fun v23 l24 => vBoolE v23 fun b25 => lNE l24 (bCE (!b25) (nxK h fun i_3 => wrLK i_3 [.int .i64 4, .string s4, .int .i64 0, .int .i64 0] h18 0 fun h26 => rdK h26 i_3 0 fun v27 => vIntE' .i64 v27 fun n28 => rdK h26 i_3 1 fun v29 => vStrE v29 fun s30 => rdK h26 i_3 2 fun v31 => vIntE' .i64 v31 fun n32 => rdK h26 i_3 3 fun v33 => vIntE' .i64 v33 fun n34 => Q (.tuple (Array.mk [.pointer none, .agg (Array.mk [.int .i64 n28, .string s30, .int .i64 n32, .int .i64 n34])])) h26) (addMK h18 fun h_4 => addMK h_4 fun h_5 => nxK h18 fun i_6 => nxK h_4 fun i_7 => addKL h_5 [.map (some i_6), .map (some i_7), .slice none 0 0, .slice none 0 0] (.node (.node (.node .nil (some (.slice none 0 0)) .nil) (some (.map (some i_7))) .nil) (some (.map (some i_6))) (.node .nil (some (.slice none 0 0)) .nil)) 4 fun h_8 => addMK h_8 fun h_9 => nxK h_9 fun i_10 => nxK h_5 fun i_11 => nxK h_8 fun i_12 => addKL h_9 [.func (Fn.func m1) x2 x3, .pointer (some ⟨i_11, 0, none⟩), .map (some i_12), .int .i64 0, .int .i64 0, .slice none 0 0, .int .i64 0, .string (ByteArray.mk #[]), .int .i64 0, .int .i64 0] (.node (.node (.node (.node .nil (some (.string (ByteArray.mk #[]))) .nil) (some (.int .i64 0)) .nil) (some (.pointer (some ⟨i_11, 0, none⟩))) (.node (.node .nil (some (.int .i64 0)) .nil) (some (.slice none 0 0)) .nil)) (some (.func (Fn.func m1) x2 x3)) (.node (.node (.node .nil (some (.int .i64 0)) .nil) (some (.int .i64 0)) .nil) (some (.map (some i_12))) (.node .nil (some (.int .i64 0)) .nil))) 10 fun h_13 => C f_cg [.pointer (some ⟨i_10, 0, none⟩), .string s4, .string s22] h_13 fun v35 h36 => vBoolE v35 fun b37 => bCE (!b37) (rdK h36 i_10 6 fun v38 => vIntE' .i64 v38 fun n39 => rdK h36 i_10 7 fun v40 => vStrE v40 fun s41 => rdK h36 i_10 8 fun v42 => vIntE' .i64 v42 fun n43 => rdK h36 i_10 9 fun v44 => vIntE' .i64 v44 fun n45 => nxK h fun i_14 => wrLK i_14 [.int .i64 n39, .string s41, .int .i64 n43, .int .i64 n45] h36 0 fun h46 => rdK h46 i_14 0 fun v47 => vIntE' .i64 v47 fun n48 => rdK h46 i_14 1 fun v49 => vStrE v49 fun s50 => rdK h46 i_14 2 fun v51 => vIntE' .i64 v51 fun n52 => rdK h46 i_14 3 fun v53 => vIntE' .i64 v53 fun n54 => Q (.tuple (Array.mk [.pointer none, .agg (Array.mk [.int .i64 n48, .string s50, .int .i64 n52, .int .i64 n54])])) h46) (rdK h36 i_10 1 fun v55 => vPtrE v55 fun p56 => nxK h fun i_15 => wrLK i_15 [.int .i64 0, .string (ByteArray.mk #[]), .int .i64 0, .int .i64 0] h36 0 fun h57 => rdK h57 i_15 0 fun v58 => vIntE' .i64 v58 fun n59 => rdK h57 i_15 1 fun v60 => vStrE v60 fun s61 => rdK h57 i_15 2 fun v62 => vIntE' .i64 v62 fun n63 => rdK h57 i_15 3 fun v64 => vIntE' .i64 v64 fun n65 => Q (.tuple (Array.mk [.pointer p56, .agg (Array.mk [.int .i64 n59, .string s61, .int .i64 n63, .int .i64 n65])])) h57))))
  | _ => False
theorem k_bn : KE P d_bn f_bn 0 0 := by
  intro C D hC hD a h Q H
  unfold d_bn at H
  split at H
  · show EvQ P f_bn _ h Q
    refine r_bn ?_
    revert H
    repeat' with_reducible first
 | refine qad ?_
 | refine qaf hC fun _ _ => ?_
 | refine qah (by with_unfolding_all rfl) (by with_unfolding_all rfl) ?_
 | refine qai ?_
 | refine qak ?_
 | refine qam fun _ => ?_
 | refine qao fun _ => ?_
 | refine qas fun _ => ?_
 | refine qba fun _ => ?_
 | refine qbc fun _ => ?_
 | refine qbd fun _ _ => ?_
 | refine qbe ?_
 | refine qbf fun _ => ?_
 | refine qbi fun _ => ?_
 | refine qbo ?_
 | refine qbp ?_
 | refine qbq ?_ ?_
 | exact id
  · exact H.elim
noncomputable def e_bn : Ent P := ⟨f_bn, 0, 0, d_bn, k_bn⟩
noncomputable def d_cg : BodyT := fun C D a h Q => match a with
  | [.pointer p1, .string s2, .string s3] => aPE p1 fun m4 m5 => rdK h m4 (m5 + 5) fun v6 => vSlE v6 fun p7 m8 m9 => addKL h [.string s2] (.node .nil (some (.string s2)) .nil) 1 fun h_1 => nxK h fun i_2 => apK ty_string 1 16 h_1 (.slice p7 m8 m9) (.slice (some ⟨i_2, 0, none⟩) 1 1) fun v10 h11 => vSlE v10 fun p12 m13 m14 => aPE p1 fun m15 m16 => wrK h11 m15 (m16 + 5) (.slice p12 m13 m14) fun h17 => aPE p1 fun m18 m19 => rdK h17 m18 (m19 + 1) fun v20 => vPtrE v20 fun p21 => aPE p21 fun m22 m23 => rdK h17 m22 (m23 + 3) fun v24 => vSlE v24 fun p25 m26 m27 => C f_e7 [.slice p25 m26 m27, .string s2] h17 fun v28 h29 => vBoolE v28 fun b30 => bCE (!b30) (aPE p1 fun m31 m32 => rdK h29 m31 (m32 + 1) fun v33 => vPtrE v33 fun p34 => aPE p1 fun m35 m36 => rdK h29 m35 (m36 + 1) fun v37 => vPtrE v37 fun p38 => aPE p38 fun m39 m40 => rdK h29 m39 (m40 + 3) fun v41 => vSlE v41 fun p42 m43 m44 => addKL h29 [.string s2] (.node .nil (some (.string s2)) .nil) 1 fun h_3 => nxK h29 fun i_4 => apK ty_string 1 16 h_3 (.slice p42 m43 m44) (.slice (some ⟨i_4, 0, none⟩) 1 1) fun v45 h46 => vSlE v45 fun p47 m48 m49 => aPE p34 fun m50 m51 => wrK h46 m50 (m51 + 3) (.slice p47 m48 m49) fun h52 => rdK h_3 m31 (m32 + 1) fun v53 => vPtrE v53 fun p54 => bCE (sameB (.pointer p54) (.pointer p34)) (rdK h46 m31 (m32 + 1) fun v55 => vPtrE v55 fun p56 => bCE (sameB (.pointer p56) (.pointer p34)) (rdK h_3 m35 (m36 + 1) fun v57 => vPtrE v57 fun p58 => bCE (sameB (.pointer p58) (.pointer p38)) (rdK h_3 m39 (m40 + 3) fun v59 => vSlE v59 fun p60 m61 m62 => bCE (sameB (.slice p60 m61 m62) (.slice p42 m43 m44)) (D f_cg 4 3073 [.pointer p1, .string s3] h52 Q) False) False) False) False) (D f_cg 4 3073 [.pointer p1, .string s3] h29 Q)
  | _ => False
theorem k_cg : KE P d_cg f_cg 0 0 := by
  intro C D hC hD a h Q H
  unfold d_cg at H
  split at H
  · show EvQ P f_cg _ h Q
    refine r_cg ?_
    revert H
    repeat' with_reducible first
 | refine qbr ti_ty_sl_string rfl ti_ty_string rfl rfl rfl ti_ty_sl_string rfl fun _ _ => ?_
 | refine qaf hC fun _ _ => ?_
 | refine qag hD (by decide)
 | refine qah (by with_unfolding_all rfl) (by with_unfolding_all rfl) ?_
 | refine qai ?_
 | refine qam fun _ => ?_
 | refine qan fun _ => ?_
 | refine qbb fun _ _ _ => ?_
 | refine qbc fun _ => ?_
 | refine qbh fun _ _ => ?_
 | refine qbi fun _ => ?_
 | refine qbo ?_
 | refine qbp ?_
 | refine qbq ?_ ?_
 | exact id
  · exact H.elim
noncomputable def e_cg : Ent P := ⟨f_cg, 0, 0, d_cg, k_cg⟩
noncomputable def d_ci : BodyT := fun C D a h Q => match a with
  | [.pointer p1, .string s2] => C f_dw [.string s2] h fun v3 h4 => vTupE v3 fun l5 => lCE l5 fun v6 l7 => vSlE v6 fun p8 m9 m10 => lCE l7 fun v11 l12 => vAggE v11 fun l13 => lCE l13 fun v14 l15 => vIntE' .i64 v14 fun n16 => lCE l15 fun v17 l18 => vStrE v17 fun s19 => lCE l18 fun v20 l21 => vIntE' .i64 v20 fun n22 => lCE l21 fun v23 l24 => vIntE' .i64 v23 fun n25 => lNE l24 (lNE l12 (addKL h4 [.int .i64 0, .string (ByteArray.mk #[]), .int .i64 0, .int .i64 0] (.node (.node (.node .nil (some (.int .i64 0)) .nil) (some (.string (ByteArray.mk #[]))) .nil) (some (.int .i64 0)) (.node .nil (some (.int .i64 0)) .nil)) 4 fun h_1 => nxK h4 fun i_2 => wrLK i_2 [.int .i64 n16, .string s19, .int .i64 n22, .int .i64 n25] h_1 0 fun h26 => rdK h26 i_2 0 fun v27 => vIntE' .i64 v27 fun n28 => neC n28 0 (rdK h26 i_2 0 fun v29 => vIntE' .i64 v29 fun n30 => rdK h26 i_2 2 fun v31 => vIntE' .i64 v31 fun n32 => rdK h26 i_2 3 fun v33 => vIntE' .i64 v33 fun n34 => C f_cf [.pointer p1, .int .i64 n30, .agg (Array.mk [.string (ByteArray.mk #[]), .int .i64 n32, .int .i64 n34, .bool false, .bool false])] h26 fun v35 h36 => vBoolE v35 fun b37 => Q (.bool b37) h36) (D f_cg 8 74159557633 [.pointer p1, .slice p8 m9 m10, .int .i64 (↑m9 : Int), .int .i64 0] h26 Q)))
  | _ => False
theorem k_ci : KE P d_ci f_cg 5 3073 := by
  intro C D hC hD a h Q H
  unfold d_ci at H
  split at H
  · show unitAt P f_cg 4 (decL 3073) _ h Q
    rw [show decL 3073 = [0, 2] from by decide]
    refine r_ci ?_
    revert H
    repeat' with_reducible first
 | refine qaf hC fun _ _ => ?_
 | refine qag hD (by decide)
 | refine qah (by with_unfolding_all rfl) (by with_unfolding_all rfl) ?_
 | refine qai ?_
 | refine qam fun _ => ?_
 | refine qao fun _ => ?_
 | refine qas fun _ => ?_
 | refine qay ?_ ?_
 | refine qba fun _ => ?_
 | refine qbb fun _ _ _ => ?_
 | refine qbc fun _ => ?_
 | refine qbd fun _ _ => ?_
 | refine qbe ?_
 | refine qbf fun _ => ?_
 | refine qbk fun _ => ?_
 | exact id
  · exact H.elim
noncomputable def e_ci : Ent P := ⟨f_cg, 5, 3073, d_ci, k_ci⟩
noncomputable def d_cj : BodyT := fun C D a h Q => match a with
  | [.pointer p1, .slice p2 m3 m4, .int .i64 n5, .int .i64 n6] => fN m3 fun m3 => fN m4 fun m4 => fI n5 fun n5 => fI n6 fun n6 => ltC n6 n5 (aPE p2 fun m7 m8 => nIdx n6 m3 fun m9 => rdK h m7 (m8 + m9 * 6) fun v10 => vIntE' .i64 v10 fun n11 => rdK h m7 (m8 + m9 * 6 + 1) fun v12 => vIntE' .i64 v12 fun n13 => rdK h m7 (m8 + m9 * 6 + 1 + 1) fun v14 => vStrE v14 fun s15 => rdK h m7 (m8 + m9 * 6 + 1 + 1 + 1) fun v16 => vSlE v16 fun p17 m18 m19 => rdK h m7 (m8 + m9 * 6 + 1 + 1 + 1 + 1) fun v20 => vSlE v20 fun p21 m22 m23 => rdK h m7 (m8 + m9 * 6 + 1 + 1 + 1 + 1 + 1) fun v24 => vSlE v24 fun p25 m26 m27 => addKL h [.int .i64 0, .int .i64 0, .string (ByteArray.mk #[]), .slice none 0 0, .slice none 0 0, .slice none 0 0] (.node (.node (.node .nil (some (.slice none 0 0)) .nil) (some (.int .i64 0)) (.node .nil (some (.slice none 0 0)) .nil)) (some (.int .i64 0)) (.node (.node .nil (some (.slice none 0 0)) .nil) (some (.string (ByteArray.mk #[]))) .nil)) 6 fun h_1 => nxK h fun i_2 => wrLK i_2 [.int .i64 n11, .int .i64 n13, .string s15, .slice p17 m18 m19, .slice p21 m22 m23, .slice p25 m26 m27] h_1 0 fun h28 => rdK h28 i_2 0 fun v29 => vIntE' .i64 v29 fun n30 => eqC n30 1 (rdK h28 i_2 4 fun v31 => vSlE v31 fun p32 m33 m34 => C f_cp [.pointer p1, .slice p32 m33 m34] h28 fun v35 h36 => vTupE v35 fun l37 => lCE l37 fun v38 l39 => vSlE v38 fun p40 m41 m42 => lCE l39 fun v43 l44 => vBoolE v43 fun b45 => lNE l44 (bCE b45 (aPE p1 fun m46 m47 => rdK h36 m46 (m47 + 2) fun v48 => vMapE v48 fun p49 => rdK h36 i_2 2 fun v50 => vStrE v50 fun s51 => C f_bu [.slice p40 m41 m42] h36 fun v52 h53 => vSlE v52 fun p54 m55 m56 => muK h53 (.map p49) (.string s51) (.slice p54 m55 m56) fun h57 => rdK h53 m46 (m47 + 2) fun v58 => vMapE v58 fun p59 => bCE (sameB (.map p59) (.map p49)) (rdK h53 i_2 2 fun v60 => vStrE v60 fun s61 => bCE (sameB (.string s61) (.string s51)) (D f_cg 21 75939387027457 [.pointer p1, .bool b45, .slice p2 m3 m4, .int .i64 n5, .int .i64 n6] h57 Q) False) False) (D f_cg 21 75939387027457 [.pointer p1, .bool b45, .slice p2 m3 m4, .int .i64 n5, .int .i64 n6] h36 Q))) (eqC n30 2 (rdK h28 i_2 0 fun v62 => vIntE' .i64 v62 fun n63 => rdK h28 i_2 1 fun v64 => vIntE' .i64 v64 fun n65 => rdK h28 i_2 2 fun v66 => vStrE v66 fun s67 => rdK h28 i_2 3 fun v68 => vSlE v68 fun p69 m70 m71 => rdK h28 i_2 4 fun v72 => vSlE v72 fun p73 m74 m75 => rdK h28 i_2 5 fun v76 => vSlE v76 fun p77 m78 m79 => C f_cs [.pointer p1, .agg (Array.mk [.int .i64 n63, .int .i64 n65, .string s67, .slice p69 m70 m71, .slice p73 m74 m75, .slice p77 m78 m79])] h28 fun v80 h81 => vBoolE v80 fun b82 => D f_cg 21 75939387027457 [.pointer p1, .bool b82, .slice p2 m3 m4, .int .i64 n5, .int .i64 n6] h81 Q) (eqC n30 3 (rdK h28 i_2 0 fun v83 => vIntE' .i64 v83 fun n84 => rdK h28 i_2 1 fun v85 => vIntE' .i64 v85 fun n86 => rdK h28 i_2 2 fun v87 => vStrE v87 fun s88 => rdK h28 i_2 3 fun v89 => vSlE v89 fun p90 m91 m92 => rdK h28 i_2 4 fun v93 => vSlE v93 fun p94 m95 m96 => rdK h28 i_2 5 fun v97 => vSlE v97 fun p98 m99 m100 => C f_cu [.pointer p1, .agg (Array.mk [.int .i64 n84, .int .i64 n86, .string s88, .slice p90 m91 m92, .slice p94 m95 m96, .slice p98 m99 m100])] h28 fun v101 h102 => vBoolE v101 fun b103 => D f_cg 21 75939387027457 [.pointer p1, .bool b103, .slice p2 m3 m4, .int .i64 n5, .int .i64 n6] h102 Q) (D f_cg 21 75939387027457 [.pointer p1, .bool false, .slice p2 m3 m4, .int .i64 n5, .int .i64 n6] h28 Q)))) (aPE p1 fun m104 m105 => rdK h m104 (m105 + 5) fun v106 => vSlE v106 fun p107 m108 m109 => aPE p1 fun m110 m111 => rdK h m110 (m111 + 5) fun v112 => vSlE v112 fun p113 m114 m115 => nBnd (wI64 (subI (↑m114 : Int) 1)) m109 fun m116 => bCE (Nat.ble m116 m109) (oQ (shO p107 0) fun p117 => aPE p1 fun m118 m119 => wrK h m118 (m119 + 5) (.slice p117 (m116 - 0) (m109 - 0)) fun h120 => Q (.bool true) h120) (False))
  | _ => False
theorem k_cj : KE P d_cj f_cg 9 74159557633 := by
  intro C D hC hD a h Q H
  unfold d_cj at H
  split at H
  · show unitAt P f_cg 8 (decL 74159557633) _ h Q
    rw [show decL 74159557633 = [0, 66, 67, 68] from by decide]
    refine r_cj ?_
    simp only [wI64_eq, subI_eq] at H
    revert H
    repeat' with_reducible first
 | refine qbs ti_ty_map_string_sl_string rfl ti_ty_string rfl fun _ => ?_
 | refine qac ?_
 | refine qad ?_
 | refine qaf hC fun _ _ => ?_
 | refine qag hD (by decide)
 | refine qah (by with_unfolding_all rfl) (by with_unfolding_all rfl) ?_
 | refine qai ?_
 | refine qam fun _ => ?_
 | refine qan fun _ => ?_
 | refine qao fun _ => ?_
 | refine qaq fun _ => ?_
 | refine qar fun _ => ?_
 | refine qas fun _ => ?_
 | refine qat ?_ ?_
 | refine qax ?_ ?_
 | refine qba fun _ => ?_
 | refine qbb fun _ _ _ => ?_
 | refine qbc fun _ => ?_
 | refine qbd fun _ _ => ?_
 | refine qbe ?_
 | refine qbf fun _ => ?_
 | refine qbh fun _ _ => ?_
 | refine qbl fun _ => ?_
 | refine qbn fun _ => ?_
 | refine qbo ?_
 | refine qbp ?_
 | refine qbq ?_ ?_
 | exact id
  · exact H.elim
noncomputable def e_cj : Ent P := ⟨f_cg, 9, 74159557633, d_cj, k_cj⟩
noncomputable def d_ch : BodyT := fun C D a h Q => match a with
  | [.pointer p1, .bool b2, .slice p3 m4 m5, .int .i64 n6, .int .i64 n7] => fB b2 fun b2 => fN m4 fun m4 => fN m5 fun m5 => fI n6 fun n6 => fI n7 fun n7 => bCE (!b2) (Q (.bool false) h) (D f_cg 8 74159557633 [.pointer p1, .slice p3 m4 m5, .int .i64 n6, .int .i64 (wI64 (addI n7 1))] h Q)
  | _ => False
theorem k_ch : KE P d_ch f_cg 22 75939387027457 := by
  intro C D hC hD a h Q H
  unfold d_ch at H
  split at H
  · show unitAt P f_cg 21 (decL 75939387027457) _ h Q
    rw [show decL 75939387027457 = [0, 11, 66, 67, 68] from by decide]
    refine r_ch ?_
    simp only [wI64_eq, addI_eq] at H
    revert H
    repeat' with_reducible first
 | refine qac ?_
 | refine qad ?_
 | refine qae ?_
 | refine qag hD (by decide)
 | refine qbo ?_
 | refine qbp ?_
 | refine qbq ?_ ?_
 | exact id
  · exact H.elim
noncomputable def e_ch : Ent P := ⟨f_cg, 22, 75939387027457, d_ch, k_ch⟩
noncomputable def d_f4 : BodyT := fun C D a h Q => match a with
  | [.string s1, .string s2] => C f_fr [.string s1, .string s2] h fun v3 h4 => vTupE v3 fun l5 => lCE l5 fun v6 l7 => vStrE v6 fun s8 => lCE l7 fun v9 l10 => vStrE v9 fun s11 => lCE l10 fun v12 l13 => vBoolE v12 fun b14 => lNE l13 (Q (.tuple (Array.mk [.string s8, .string s11, .bool b14])) h4)
  | _ => False
theorem k_f4 : KE P d_f4 f_f4 0 0 := by
  intro C D hC hD a h Q H
  unfold d_f4 at H
  split at H
  · show EvQ P f_f4 _ h Q
    refine r_f4 ?_
    revert H
    repeat' with_reducible first
 | refine qaf hC fun _ _ => ?_
 | refine qba fun _ => ?_
 | refine qbc fun _ => ?_
 | refine qbd fun _ _ => ?_
 | refine qbe ?_
 | refine qbf fun _ => ?_
 | exact id
  · exact H.elim
noncomputable def e_f4 : Ent P := ⟨f_f4, 0, 0, d_f4, k_f4⟩
noncomputable def d_f3 : BodyT := fun C D a h Q => match a with
  | [.string s1, .string s2] => eqC (↑(szE s2) : Int) 0 (C f_fy [.string s1] h fun v3 h4 => vIntE' .i64 v3 fun n5 => Q (.int .i64 (wI64 (addI n5 1))) h4) (eqC (↑(szE s2) : Int) 1 (nIdx 0 (szE s2) fun m6 => bAtK s2 m6 fun n7 => C f_b9 [.string s1, .int .u8 n7] h fun v8 h9 => vIntE' .i64 v8 fun n10 => Q (.int .i64 n10) h9) (D f_f3 6 6293505 [.string s1, .string s2, .int .i64 0] h Q))
  | _ => False
theorem k_f3 : KE P d_f3 f_f3 0 0 := by
  intro C D hC hD a h Q H
  unfold d_f3 at H
  split at H
  · show EvQ P f_f3 _ h Q
    refine r_f3 ?_
    simp only [wI64_eq, addI_eq, szE_eq] at H
    revert H
    repeat' with_reducible first
 | refine qaf hC fun _ _ => ?_
 | refine qag hD (by decide)
 | refine qap fun _ => ?_
 | refine qaq fun _ => ?_
 | refine qas fun _ => ?_
 | refine qax ?_ ?_
 | exact id
  · exact H.elim
noncomputable def e_f3 : Ent P := ⟨f_f3, 0, 0, d_f3, k_f3⟩
noncomputable def d_a3 : BodyT := fun C D a h Q => match a with
  | [.slice p1 m2 m3] => fN m2 fun m2 => fN m3 fun m3 => addKL h [.slice p1 m2 m3] (.node .nil (some (.slice p1 m2 m3)) .nil) 1 fun h_1 => addKL h_1 [.int .i64 0, .int .i64 0] (.node (.node .nil (some (.int .i64 0)) .nil) (some (.int .i64 0)) .nil) 2 fun h_2 => addKL h_2 [.int .i64 0] (.node .nil (some (.int .i64 0)) .nil) 1 fun h_3 => addKL h_3 [.int .i64 0] (.node .nil (some (.int .i64 0)) .nil) 1 fun h_4 => nxK h_2 fun i_5 => wrK h_4 i_5 0 (.int .i64 0) fun h4 => nxK h_3 fun i_6 => wrK h4 i_6 0 (.int .i64 0) fun h5 => addKL h5 [.int .i64 0, .int .i64 0] (.node (.node .nil (some (.int .i64 0)) .nil) (some (.int .i64 0)) .nil) 2 fun h_7 => addKL h_7 [.nilFunc] (.node .nil (some (.nilFunc)) .nil) 1 fun h_8 => nxK h_7 fun i_9 => nxK h fun i_10 => wrK h_8 i_9 0 (.func (Fn.func f_a4) (Array.mk []) (Array.mk [.pointer (some ⟨i_5, 0, none⟩), .pointer (some ⟨i_10, 0, none⟩)])) fun h6 => addKL h6 [.nilFunc] (.node .nil (some (.nilFunc)) .nil) 1 fun h_11 => nxK h6 fun i_12 => nxK h5 fun i_13 => wrK h_11 i_12 0 (.func (Fn.func f_a5) (Array.mk []) (Array.mk [.pointer (some ⟨i_13, 0, none⟩), .pointer (some ⟨i_9, 0, none⟩), .pointer (some ⟨i_5, 0, none⟩), .pointer (some ⟨i_6, 0, none⟩), .pointer (some ⟨i_12, 0, none⟩)])) fun h7 => rdK h7 i_12 0 fun v8 => vFun v8 fun m9 l10 l11 => C m9 (l10 ++ .int .i64 0 :: l11) h7 fun v12 h13 => vSlE v12 fun p14 m15 m16 => rdK h13 i_13 0 fun v17 => vIntE' .i64 v17 fun n18 => neC n18 0 (rdK h13 i_13 0 fun v19 => vIntE' .i64 v19 fun n20 => rdK h13 i_13 1 fun v21 => vIntE' .i64 v21 fun n22 => nxK h_1 fun i_14 => wrLK i_14 [.int .i64 n20, .int .i64 n22] h13 0 fun h23 => rdK h23 i_14 0 fun v24 => vIntE' .i64 v24 fun n25 => rdK h23 i_14 1 fun v26 => vIntE' .i64 v26 fun n27 => Q (.tuple (Array.mk [.slice none 0 0, .agg (Array.mk [.int .i64 n25, .int .i64 n27])])) h23) (nxK h_1 fun i_15 => wrLK i_15 [.int .i64 0, .int .i64 0] h13 0 fun h28 => rdK h28 i_15 0 fun v29 => vIntE' .i64 v29 fun n30 => rdK h28 i_15 1 fun v31 => vIntE' .i64 v31 fun n32 => Q (.tuple (Array.mk [.slice p14 m15 m16, .agg (Array.mk [.int .i64 n30, .int .i64 n32])])) h28)
  | _ => False
theorem k_a3 : KE P d_a3 f_a3 0 0 := by
  intro C D hC hD a h Q H
  unfold d_a3 at H
  split at H
  · show EvQ P f_a3 _ h Q
    refine r_a3 ?_
    revert H
    repeat' with_reducible first
 | refine qad ?_
 | refine qaf hC fun _ _ => ?_
 | refine qah (by with_unfolding_all rfl) (by with_unfolding_all rfl) ?_
 | refine qai ?_
 | refine qam fun _ => ?_
 | refine qan fun _ => ?_
 | refine qao fun _ => ?_
 | refine qas fun _ => ?_
 | refine qay ?_ ?_
 | refine qbb fun _ _ _ => ?_
 | refine qbm fun _ _ _ => ?_
 | exact id
  · exact H.elim
noncomputable def e_a3 : Ent P := ⟨f_a3, 0, 0, d_a3, k_a3⟩
noncomputable def d_b4 : BodyT := fun C D a h Q => match a with
  | [.slice p1 m2 m3] => fN m2 fun m2 => fN m3 fun m3 => nxK h fun i_1 => addKL h [.slice p1 m2 m3] (.node .nil (some (.slice p1 m2 m3)) .nil) 1 fun h_2 => Q (.func (Fn.func f_b5) (Array.mk []) (Array.mk [.pointer (some ⟨i_1, 0, none⟩)])) h_2
  | _ => False
theorem k_b4 : KE P d_b4 f_b4 0 0 := by
  intro C D hC hD a h Q H
  unfold d_b4 at H
  split at H
  · show EvQ P f_b4 _ h Q
    refine r_b4 ?_
    revert H
    repeat' with_reducible first
 | refine qad ?_
 | refine qah (by with_unfolding_all rfl) (by with_unfolding_all rfl) ?_
 | refine qai ?_
 | exact id
  · exact H.elim
noncomputable def e_b4 : Ent P := ⟨f_b4, 0, 0, d_b4, k_b4⟩
noncomputable def d_b5 : BodyT := fun C D a h Q => match a with
  | [.string s1, .pointer (some ⟨m2, m3, none⟩)] => fN m2 fun m2 => fN m3 fun m3 => rdK h m2 m3 fun v4 => vSlE v4 fun p5 m6 m7 => C f_b7 [.slice p5 m6 m7, .string s1] h fun v8 h9 => vTupE v8 fun l10 => lCE l10 fun v11 l12 => vStrE v11 fun s13 => lCE l12 fun v14 l15 => vBoolE v14 fun b16 => lNE l15 (Q (.tuple (Array.mk [.string s13, .bool b16])) h9)
  | _ => False
theorem k_b5 : KE P d_b5 f_b5 0 0 := by
  intro C D hC hD a h Q H
  unfold d_b5 at H
  split at H
  · show EvQ P f_b5 _ h Q
    refine r_b5 ?_
    revert H
    repeat' with_reducible first
 | refine qad ?_
 | refine qaf hC fun _ _ => ?_
 | refine qam fun _ => ?_
 | refine qba fun _ => ?_
 | refine qbb fun _ _ _ => ?_
 | refine qbc fun _ => ?_
 | refine qbd fun _ _ => ?_
 | refine qbe ?_
 | refine qbf fun _ => ?_
 | exact id
  · exact H.elim
noncomputable def e_b5 : Ent P := ⟨f_b5, 0, 0, d_b5, k_b5⟩
noncomputable def d_dt : BodyT := fun C D a h Q => match a with
  | [.string s1] => bEqC s1 (ByteArray.mk #[]) (Q (.bool false) h) (gtC (↑(szE s1) : Int) 32 (Q (.bool false) h) (bEqC s1 (ByteArray.mk #[46]) (Q (.bool false) h) (bEqC s1 (ByteArray.mk #[46, 46]) (Q (.bool false) h) (D f_dt 4 23090177 [.string s1, .int .i64 (↑(szE s1) : Int), .int .i64 0] h Q))))
  | _ => False
theorem k_dt : KE P d_dt f_dt 0 0 := by
  intro C D hC hD a h Q H
  unfold d_dt at H
  split at H
  · show EvQ P f_dt _ h Q
    refine r_dt ?_
    simp only [szE_eq] at H
    revert H
    repeat' with_reducible first
 | refine qag hD (by decide)
 | refine qav ?_ ?_
 | refine qaz ?_ ?_
 | exact id
  · exact H.elim
noncomputable def e_dt : Ent P := ⟨f_dt, 0, 0, d_dt, k_dt⟩
noncomputable def d_du : BodyT := fun C D a h Q => match a with
  | [.string s1, .int .i64 n2, .int .i64 n3] => fI n2 fun n2 => fI n3 fun n3 => ltC n3 n2 (nIdx n3 (szE s1) fun m4 => bAtK s1 m4 fun n5 => C f_ds [.int .u8 n5] h fun v6 h7 => vBoolE v6 fun b8 => bCE (!b8) (Q (.bool false) h7) (D f_dt 4 23090177 [.string s1, .int .i64 n2, .int .i64 (wI64 (addI n3 1))] h7 Q)) (Q (.bool true) h)
  | _ => False
theorem k_du : KE P d_du f_dt 5 23090177 := by
  intro C D hC hD a h Q H
  unfold d_du at H
  split at H
  · show unitAt P f_dt 4 (decL 23090177) _ h Q
    rw [show decL 23090177 = [0, 20, 21] from by decide]
    refine r_du ?_
    simp only [wI64_eq, addI_eq, szE_eq] at H
    revert H
    repeat' with_reducible first
 | refine qac ?_
 | refine qaf hC fun _ _ => ?_
 | refine qag hD (by decide)
 | refine qap fun _ => ?_
 | refine qaq fun _ => ?_
 | refine qat ?_ ?_
 | refine qbc fun _ => ?_
 | refine qbo ?_
 | refine qbp ?_
 | refine qbq ?_ ?_
 | exact id
  · exact H.elim
noncomputable def e_du : Ent P := ⟨f_dt, 5, 23090177, d_du, k_du⟩
noncomputable def d_fr : BodyT := fun C D a h Q => match a with
  | [.string s1, .string s2] => C f_fv [.string s1, .string s2] h fun v3 h4 => vIntE' .i64 v3 fun n5 => geC n5 0 (nBnd n5 (szE s1) fun m6 => nBnd (wI64 (addI n5 (↑(szE s2) : Int))) (szE s1) fun m7 => subK s1 0 m6 fun s_1 => subK s1 m7 (szE s1) fun s_2 => Q (.tuple (Array.mk [.string s_1, .string s_2, .bool true])) h4) (Q (.tuple (Array.mk [.string s1, .string (ByteArray.mk #[]), .bool false])) h4)
  | _ => False
theorem k_fr : KE P d_fr f_fr 0 0 := by
  intro C D hC hD a h Q H
  unfold d_fr at H
  split at H
  · show EvQ P f_fr _ h Q
    refine r_fr ?_
    simp only [wI64_eq, addI_eq, szE_eq] at H
    revert H
    repeat' with_reducible first
 | refine qaf hC fun _ _ => ?_
 | refine qaj ?_
 | refine qar fun _ => ?_
 | refine qas fun _ => ?_
 | refine qaw ?_ ?_
 | exact id
  · exact H.elim
noncomputable def e_fr : Ent P := ⟨f_fr, 0, 0, d_fr, k_fr⟩
noncomputable def d_e8 : BodyT := fun C D a h Q => match a with
  | [.slice p1 m2 m3, .func (Fn.func m4) x5 x6] => fN m2 fun m2 => fN m3 fun m3 => fN m4 fun m4 => D f_e8 2 9672067073 [.slice p1 m2 m3, .func (Fn.func m4) x5 x6, .int .i64 (↑m2 : Int), .int .i64 0] h Q
  | _ => False
theorem k_e8 : KE P d_e8 f_e8 0 0 := by
  intro C D hC hD a h Q H
  unfold d_e8 at H
  split at H
  · show EvQ P f_e8 _ h Q
    refine r_e8 ?_
    revert H
    repeat' with_reducible first
 | refine qad ?_
 | refine qag hD (by decide)
 | exact id
  · exact H.elim
noncomputable def e_e8 : Ent P := ⟨f_e8, 0, 0, d_e8, k_e8⟩
noncomputable def d_e9 : BodyT := fun C D a h Q => match a with
  | [.slice p1 m2 m3, .func (Fn.func m4) x5 x6, .int .i64 n7, .int .i64 n8] => fN m2 fun m2 => fN m3 fun m3 => fN m4 fun m4 => fI n7 fun n7 => fI n8 fun n8 => ltC n8 n7 (aPE p1 fun m9 m10 => nIdx n8 m2 fun m11 => rdK h m9 (m10 + m11 * 5) fun v12 => vStrE v12 fun s13 => rdK h m9 (m10 + m11 * 5 + 1) fun v14 => vIntE' .i64 v14 fun n15 => rdK h m9 (m10 + m11 * 5 + 1 + 1) fun v16 => vIntE' .i64 v16 fun n17 => rdK h m9 (m10 + m11 * 5 + 1 + 1 + 1) fun v18 => vBoolE v18 fun b19 => rdK h m9 (m10 + m11 * 5 + 1 + 1 + 1 + 1) fun v20 => vBoolE v20 fun b21 => C m4 (Array.toList x5 ++ .agg (Array.mk [.string s13, .int .i64 n15, .int .i64 n17, .bool b19, .bool b21]) :: Array.toList x6) h fun v22 h23 => vBoolE v22 fun b24 => bCE b24 (Q (.int .i64 n8) h23) (D f_e8 2 9672067073 [.slice p1 m2 m3, .func (Fn.func m4) x5 x6, .int .i64 n7, .int .i64 (wI64 (addI n8 1))] h23 Q)) (Q (.int .i64 (Int.negSucc 0)) h)
  | _ => False
theorem k_e9 : KE P d_e9 f_e8 3 9672067073 := by
  intro C D hC hD a h Q H
  unfold d_e9 at H
  split at H
  · show unitAt P f_e8 2 (decL 9672067073) _ h Q
    rw [show decL 9672067073 = [0, 1, 7, 8] from by decide]
    refine r_e9 ?_
    simp only [wI64_eq, addI_eq] at H
    revert H
    repeat' with_reducible first
 | refine qac ?_
 | refine qad ?_
 | refine qaf hC fun _ _ => ?_
 | refine qag hD (by decide)
 | refine qam fun _ => ?_
 | refine qaq fun _ => ?_
 | refine qas fun _ => ?_
 | refine qat ?_ ?_
 | refine qba fun _ => ?_
 | refine qbc fun _ => ?_
 | refine qbh fun _ _ => ?_
 | refine qbo ?_
 | refine qbp ?_
 | refine qbq ?_ ?_
 | exact id
  · exact H.elim
noncomputable def e_e9 : Ent P := ⟨f_e8, 3, 9672067073, d_e9, k_e9⟩
noncomputable def d_f5 : BodyT := fun C D a h Q => match a with
  | [.string s1, .string s2] => C f_fs [.string s1, .string s2] h fun v3 h4 => vTupE v3 fun l5 => lCE l5 fun v6 l7 => vStrE v6 fun s8 => lCE l7 fun v9 l10 => vBoolE v9 fun b11 => lNE l10 (Q (.tuple (Array.mk [.string s8, .bool b11])) h4)
  | _ => False
theorem k_f5 : KE P d_f5 f_f5 0 0 := by
  intro C D hC hD a h Q H
  unfold d_f5 at H
  split at H
  · show EvQ P f_f5 _ h Q
    refine r_f5 ?_
    revert H
    repeat' with_reducible first
 | refine qaf hC fun _ _ => ?_
 | refine qba fun _ => ?_
 | refine qbc fun _ => ?_
 | refine qbd fun _ _ => ?_
 | refine qbe ?_
 | refine qbf fun _ => ?_
 | exact id
  · exact H.elim
noncomputable def e_f5 : Ent P := ⟨f_f5, 0, 0, d_f5, k_f5⟩
noncomputable def d_b7 : BodyT := fun C D a h Q => match a with
  | [.slice p1 m2 m3, .string s4] => fN m2 fun m2 => fN m3 fun m3 => D f_b7 2 7342081 [.slice p1 m2 m3, .string s4, .int .i64 0] h Q
  | _ => False
theorem k_b7 : KE P d_b7 f_b7 0 0 := by
  intro C D hC hD a h Q H
  unfold d_b7 at H
  split at H
  · show EvQ P f_b7 _ h Q
    refine r_b7 ?_
    revert H
    repeat' with_reducible first
 | refine qad ?_
 | refine qag hD (by decide)
 | exact id
  · exact H.elim
noncomputable def e_b7 : Ent P := ⟨f_b7, 0, 0, d_b7, k_b7⟩
end
end Go.Proofs.YtamoepfiodgbbaaGreatDoor.E
end
