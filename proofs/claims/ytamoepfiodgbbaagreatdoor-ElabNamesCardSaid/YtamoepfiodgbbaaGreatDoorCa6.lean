/- A deterministic heap for the model, proved sound, and walks of the program over it: part 11. No condition. -/
import Derived.Test.YtamoepfiodgbbaaGreatDoorCa5
set_option linter.unusedVariables false
set_option linter.unusedSimpArgs false
set_option linter.unusedSectionVars false
section
/- Bodies that the kernel can run, printed by a program of ours. -/
namespace Go.Proofs.YtamoepfiodgbbaaGreatDoor.E
open Go.Abs
set_option maxRecDepth 100000
set_option maxHeartbeats 4000000
section
noncomputable def d_b8 : BodyT := fun C D a h Q => match a with
  | [.slice p1 m2 m3, .string s4, .int .i64 n5] => fN m2 fun m2 => fN m3 fun m3 => fI n5 fun n5 => ltC n5 (↑m2 : Int) (aPE p1 fun m6 m7 => nIdx n5 m2 fun m8 => rdK h m6 (m7 + m8 * 2) fun v9 => vStrE v9 fun s10 => bEqC s10 s4 (aPE p1 fun m11 m12 => nIdx n5 m2 fun m13 => rdK h m11 (m12 + m13 * 2 + 1) fun v14 => vStrE v14 fun s15 => Q (.tuple (Array.mk [.string s15, .bool true])) h) (D f_b7 2 7342081 [.slice p1 m2 m3, .string s4, .int .i64 (wI64 (addI n5 1))] h Q)) (Q (.tuple (Array.mk [.string (ByteArray.mk #[]), .bool false])) h)
  | _ => False
theorem k_b8 : KE P d_b8 f_b7 3 7342081 := by
  intro C D hC hD a h Q H
  unfold d_b8 at H
  split at H
  · show unitAt P f_b7 2 (decL 7342081) _ h Q
    rw [show decL 7342081 = [0, 1, 6] from by decide]
    refine r_b8 ?_
    simp only [wI64_eq, addI_eq] at H
    revert H
    repeat' with_reducible first
 | refine qac ?_
 | refine qad ?_
 | refine qag hD (by decide)
 | refine qam fun _ => ?_
 | refine qaq fun _ => ?_
 | refine qat ?_ ?_
 | refine qaz ?_ ?_
 | refine qba fun _ => ?_
 | refine qbh fun _ _ => ?_
 | exact id
  · exact H.elim
noncomputable def e_b8 : Ent P := ⟨f_b7, 3, 7342081, d_b8, k_b8⟩
noncomputable def d_fa : BodyT := fun C D a h Q => match a with
  | [.slice p1 m2 m3, .string s4] => fN m2 fun m2 => fN m3 fun m3 => eqC (↑m2 : Int) 0 (Q (.string (ByteArray.mk #[])) h) (eqC (↑m2 : Int) 1 (aPE p1 fun m5 m6 => nIdx 0 m2 fun m7 => rdK h m5 (m6 + m7 * 1) fun v8 => vStrE v8 fun s9 => Q (.string s9) h) (gtC (↑(szE s4) : Int) 0 (bCE (decide (IntKind.wrap .i64 ((↑m2 : Int) - 1) = 0)) (False) (geC (↑(szE s4) : Int) (wI64 (Int.tdiv 9223372036854775807 (wI64 (subI (↑m2 : Int) 1)))) (False) (D f_fa 10 6293505 [.slice p1 m2 m3, .string s4, .int .i64 0] h Q))) (D f_fa 12 47332919020095489 [.slice p1 m2 m3, .string s4, .int .i64 0, .slice p1 m2 m3, .int .i64 (↑m2 : Int), .int .i64 0] h Q)))
  | _ => False
theorem k_fa : KE P d_fa f_fa 0 0 := by
  intro C D hC hD a h Q H
  unfold d_fa at H
  split at H
  · show EvQ P f_fa _ h Q
    refine r_fa ?_
    simp only [wI64_eq, subI_eq, szE_eq] at H
    revert H
    repeat' with_reducible first
 | refine qad ?_
 | refine qag hD (by decide)
 | refine qam fun _ => ?_
 | refine qaq fun _ => ?_
 | refine qav ?_ ?_
 | refine qaw ?_ ?_
 | refine qax ?_ ?_
 | refine qba fun _ => ?_
 | refine qbh fun _ _ => ?_
 | refine qbo ?_
 | refine qbp ?_
 | refine qbq ?_ ?_
 | exact id
  · exact H.elim
noncomputable def e_fa : Ent P := ⟨f_fa, 0, 0, d_fa, k_fa⟩
noncomputable def d_fc : BodyT := fun C D a h Q => match a with
  | [.slice p1 m2 m3, .string s4, .int .i64 n5, .slice p6 m7 m8, .int .i64 n9, .int .i64 n10] => fN m2 fun m2 => fN m3 fun m3 => fI n5 fun n5 => fN m7 fun m7 => fN m8 fun m8 => fI n9 fun n9 => fI n10 fun n10 => ltC n10 n9 (aPE p6 fun m11 m12 => nIdx n10 m7 fun m13 => rdK h m11 (m12 + m13 * 1) fun v14 => vStrE v14 fun s15 => gtC (↑(szE s15) : Int) (wI64 (subI 9223372036854775807 n5)) (False) (D f_fa 16 48468909078729459713 [.slice p1 m2 m3, .string s4, .int .i64 n5, .string s15, .slice p6 m7 m8, .int .i64 n9, .int .i64 n10] h Q)) (nxK h fun i_1 => addKL h [.pointer none, .slice none 0 0] (.node (.node .nil (some (.slice none 0 0)) .nil) (some (.pointer none)) .nil) 2 fun h_2 => tagK h_2 i_1 ty_strings_Builder fun h_3 => C f_db [.pointer (some ⟨i_1, 0, none⟩), .int .i64 n5] h_3 fun v16 h17 => aPE p1 fun m18 m19 => nIdx 0 m2 fun m20 => rdK h17 m18 (m19 + m20 * 1) fun v21 => vStrE v21 fun s22 => C f_dh [.pointer (some ⟨i_1, 0, none⟩), .string s22] h17 fun v23 h24 => vTupE v23 fun l25 => lCE l25 fun v26 l27 => vIntE' .i64 v26 fun n28 => lCE l27 fun v29 l30 => vIfcE v29 (lNE l30 (nBnd 1 m2 fun m31 => bCE (Nat.ble m2 m3) (oQ (shO p1 (m31 * 1)) fun p32 => D f_fa 22 72637627769858 [.string s4, .pointer (some ⟨i_1, 0, none⟩), .slice p32 (m2 - m31) (m3 - m31), .int .i64 (↑(m2 - m31) : Int), .int .i64 0] h24 Q) (False))) fun m33 v34 => lNE l30 (nBnd 1 m2 fun m35 => bCE (Nat.ble m2 m3) (oQ (shO p1 (m35 * 1)) fun p36 => D f_fa 22 72637627769858 [.string s4, .pointer (some ⟨i_1, 0, none⟩), .slice p36 (m2 - m35) (m3 - m35), .int .i64 (↑(m2 - m35) : Int), .int .i64 0] h24 Q) (False)))
  | _ => False
theorem k_fc : KE P d_fc f_fa 13 47332919020095489 := by
  intro C D hC hD a h Q H
  unfold d_fc at H
  split at H
  · show unitAt P f_fa 12 (decL 47332919020095489) _ h Q
    rw [show decL 47332919020095489 = [0, 1, 5, 39, 40, 41] from by decide]
    refine r_fc ?_
    simp only [wI64_eq, subI_eq, szE_eq] at H
    revert H
    repeat' with_reducible first
 | refine qac ?_
 | refine qad ?_
 | refine qaf hC fun _ _ => ?_
 | refine qag hD (by decide)
 | refine qah (by with_unfolding_all rfl) (by with_unfolding_all rfl) ?_
 | refine qai ?_
 | refine qal ?_
 | refine qam fun _ => ?_
 | refine qaq fun _ => ?_
 | refine qar fun _ => ?_
 | refine qas fun _ => ?_
 | refine qat ?_ ?_
 | refine qav ?_ ?_
 | refine qba fun _ => ?_
 | refine qbd fun _ _ => ?_
 | refine qbe ?_
 | refine qbf fun _ => ?_
 | refine qbh fun _ _ => ?_
 | refine qbj ?_ fun _ _ => ?_
 | refine qbn fun _ => ?_
 | refine qbo ?_
 | refine qbp ?_
 | refine qbq ?_ ?_
 | exact id
  · exact H.elim
noncomputable def e_fc : Ent P := ⟨f_fa, 13, 47332919020095489, d_fc, k_fc⟩
noncomputable def d_fd : BodyT := fun C D a h Q => match a with
  | [.slice p1 m2 m3, .string s4, .int .i64 n5, .string s6, .slice p7 m8 m9, .int .i64 n10, .int .i64 n11] => fN m2 fun m2 => fN m3 fun m3 => fI n5 fun n5 => fN m8 fun m8 => fN m9 fun m9 => fI n10 fun n10 => fI n11 fun n11 => D f_fa 12 47332919020095489 [.slice p1 m2 m3, .string s4, .int .i64 (wI64 (addI n5 (↑(szE s6) : Int))), .slice p7 m8 m9, .int .i64 n10, .int .i64 (wI64 (addI n11 1))] h Q
  | _ => False
theorem k_fd : KE P d_fd f_fa 17 48468909078729459713 := by
  intro C D hC hD a h Q H
  unfold d_fd at H
  split at H
  · show unitAt P f_fa 16 (decL 48468909078729459713) _ h Q
    rw [show decL 48468909078729459713 = [0, 1, 5, 7, 39, 40, 41] from by decide]
    refine r_fd ?_
    simp only [wI64_eq, addI_eq, szE_eq] at H
    revert H
    repeat' with_reducible first
 | refine qac ?_
 | refine qad ?_
 | refine qag hD (by decide)
 | exact id
  · exact H.elim
noncomputable def e_fd : Ent P := ⟨f_fa, 17, 48468909078729459713, d_fd, k_fd⟩
noncomputable def d_fe : BodyT := fun C D a h Q => match a with
  | [.string s1, .pointer (some ⟨m2, 0, none⟩), .slice p3 m4 m5, .int .i64 n6, .int .i64 n7] => fN m2 fun m2 => fN m4 fun m4 => fN m5 fun m5 => fI n6 fun n6 => fI n7 fun n7 => ltC n7 n6 (aPE p3 fun m8 m9 => nIdx n7 m4 fun m10 => rdK h m8 (m9 + m10 * 1) fun v11 => vStrE v11 fun s12 => C f_dh [.pointer (some ⟨m2, 0, none⟩), .string s1] h fun v13 h14 => vTupE v13 fun l15 => lCE l15 fun v16 l17 => vIntE' .i64 v16 fun n18 => lCE l17 fun v19 l20 => vIfcE v19 (lNE l20 (C f_dh [.pointer (some ⟨m2, 0, none⟩), .string s12] h14 fun v21 h22 => vTupE v21 fun l23 => lCE l23 fun v24 l25 => vIntE' .i64 v24 fun n26 => lCE l25 fun v27 l28 => vIfcE v27 (lNE l28 (D f_fa 22 72637627769858 [.string s1, .pointer (some ⟨m2, 0, none⟩), .slice p3 m4 m5, .int .i64 n6, .int .i64 (wI64 (addI n7 1))] h22 Q)) fun m29 v30 => lNE l28 (D f_fa 22 72637627769858 [.string s1, .pointer (some ⟨m2, 0, none⟩), .slice p3 m4 m5, .int .i64 n6, .int .i64 (wI64 (addI n7 1))] h22 Q))) fun m31 v32 => lNE l20 (C f_dh [.pointer (some ⟨m2, 0, none⟩), .string s12] h14 fun v33 h34 => vTupE v33 fun l35 => lCE l35 fun v36 l37 => vIntE' .i64 v36 fun n38 => lCE l37 fun v39 l40 => vIfcE v39 (lNE l40 (D f_fa 22 72637627769858 [.string s1, .pointer (some ⟨m2, 0, none⟩), .slice p3 m4 m5, .int .i64 n6, .int .i64 (wI64 (addI n7 1))] h34 Q)) fun m41 v42 => lNE l40 (D f_fa 22 72637627769858 [.string s1, .pointer (some ⟨m2, 0, none⟩), .slice p3 m4 m5, .int .i64 n6, .int .i64 (wI64 (addI n7 1))] h34 Q))) (C f_df [.pointer (some ⟨m2, 0, none⟩)] h fun v43 h44 => vStrE v43 fun s45 => Q (.string s45) h44)
  | _ => False
theorem k_fe : KE P d_fe f_fa 23 72637627769858 := by
  intro C D hC hD a h Q H
  unfold d_fe at H
  split at H
  · show unitAt P f_fa 22 (decL 72637627769858) _ h Q
    rw [show decL 72637627769858 = [1, 8, 63, 64, 65] from by decide]
    refine r_fe ?_
    simp only [wI64_eq, addI_eq] at H
    revert H
    repeat' with_reducible first
 | refine qac ?_
 | refine qad ?_
 | refine qaf hC fun _ _ => ?_
 | refine qag hD (by decide)
 | refine qam fun _ => ?_
 | refine qaq fun _ => ?_
 | refine qas fun _ => ?_
 | refine qat ?_ ?_
 | refine qba fun _ => ?_
 | refine qbd fun _ _ => ?_
 | refine qbe ?_
 | refine qbf fun _ => ?_
 | refine qbh fun _ _ => ?_
 | refine qbj ?_ fun _ _ => ?_
 | exact id
  · exact H.elim
noncomputable def e_fe : Ent P := ⟨f_fa, 23, 72637627769858, d_fe, k_fe⟩
noncomputable def d_fb : BodyT := fun C D a h Q => match a with
  | [.slice p1 m2 m3, .string s4, .int .i64 n5] => fN m2 fun m2 => fN m3 fun m3 => fI n5 fun n5 => D f_fa 12 47332919020095489 [.slice p1 m2 m3, .string s4, .int .i64 (wI64 (addI n5 (wI64 ((↑(szE s4) : Int) * IntKind.wrap .i64 ((↑m2 : Int) - 1))))), .slice p1 m2 m3, .int .i64 (↑m2 : Int), .int .i64 0] h Q
  | _ => False
theorem k_fb : KE P d_fb f_fa 11 6293505 := by
  intro C D hC hD a h Q H
  unfold d_fb at H
  split at H
  · show unitAt P f_fa 10 (decL 6293505) _ h Q
    rw [show decL 6293505 = [0, 1, 5] from by decide]
    refine r_fb ?_
    simp only [wI64_eq, addI_eq, szE_eq] at H
    revert H
    repeat' with_reducible first
 | refine qac ?_
 | refine qad ?_
 | refine qag hD (by decide)
 | exact id
  · exact H.elim
noncomputable def e_fb : Ent P := ⟨f_fa, 11, 6293505, d_fb, k_fb⟩
noncomputable def d_e0 : BodyT := fun C D a h Q => match a with
  | [.agg (Array.mk [.string s1, .int .i64 n2, .int .i64 n3, .bool b4, .bool b5])] => fI n2 fun n2 => fI n3 fun n3 => fB b4 fun b4 => fB b5 fun b5 => addKL h [.string s1, .int .i64 n2, .int .i64 n3, .bool b4, .bool b5] (.node (.node (.node .nil (some (.bool b4)) .nil) (some (.int .i64 n2)) .nil) (some (.string s1)) (.node (.node .nil (some (.bool b5)) .nil) (some (.int .i64 n3)) .nil)) 5 fun h_1 => nxK h fun i_2 => rdK h_1 i_2 3 fun v6 => vBoolE v6 fun b7 => bCE b7 (Q (.string (ByteArray.mk #[])) h_1) (rdK h_1 i_2 4 fun v8 => vBoolE v8 fun b9 => bCE b9 (Q (.string (ByteArray.mk #[])) h_1) (rdK h_1 i_2 0 fun v10 => vStrE v10 fun s11 => Q (.string s11) h_1))
  | _ => False
theorem k_e0 : KE P d_e0 f_e0 0 0 := by
  intro C D hC hD a h Q H
  unfold d_e0 at H
  split at H
  · show EvQ P f_e0 _ h Q
    refine r_e0 ?_
    revert H
    repeat' with_reducible first
 | refine qac ?_
 | refine qae ?_
 | refine qah (by with_unfolding_all rfl) (by with_unfolding_all rfl) ?_
 | refine qai ?_
 | refine qam fun _ => ?_
 | refine qba fun _ => ?_
 | refine qbc fun _ => ?_
 | refine qbo ?_
 | refine qbp ?_
 | refine qbq ?_ ?_
 | exact id
  · exact H.elim
noncomputable def e_e0 : Ent P := ⟨f_e0, 0, 0, d_e0, k_e0⟩
noncomputable def d_ds : BodyT := fun C D a h Q => match a with
  | [.int .u8 n1] => fI n1 fun n1 => geC n1 97 (leC n1 122 (Q (.bool true) h) (geC n1 48 (leC n1 57 (Q (.bool true) h) (eqC n1 95 (Q (.bool true) h) (eqC n1 46 (Q (.bool true) h) (eqC n1 45 (Q (.bool true) h) (Q (.bool false) h))))) (eqC n1 95 (Q (.bool true) h) (eqC n1 46 (Q (.bool true) h) (eqC n1 45 (Q (.bool true) h) (Q (.bool false) h)))))) (geC n1 48 (leC n1 57 (Q (.bool true) h) (eqC n1 95 (Q (.bool true) h) (eqC n1 46 (Q (.bool true) h) (eqC n1 45 (Q (.bool true) h) (Q (.bool false) h))))) (eqC n1 95 (Q (.bool true) h) (eqC n1 46 (Q (.bool true) h) (eqC n1 45 (Q (.bool true) h) (Q (.bool false) h)))))
  | _ => False
theorem k_ds : KE P d_ds f_ds 0 0 := by
  intro C D hC hD a h Q H
  unfold d_ds at H
  split at H
  · show EvQ P f_ds _ h Q
    refine r_ds ?_
    revert H
    repeat' with_reducible first
 | refine qac ?_
 | refine qau ?_ ?_
 | refine qaw ?_ ?_
 | refine qax ?_ ?_
 | exact id
  · exact H.elim
noncomputable def e_ds : Ent P := ⟨f_ds, 0, 0, d_ds, k_ds⟩
noncomputable def d_e2 : BodyT := fun C D a h Q => match a with
  | [.agg (Array.mk [.string s1, .int .i64 n2, .int .i64 n3, .bool b4, .bool b5])] => fI n2 fun n2 => fI n3 fun n3 => fB b4 fun b4 => fB b5 fun b5 => addKL h [.string s1, .int .i64 n2, .int .i64 n3, .bool b4, .bool b5] (.node (.node (.node .nil (some (.bool b4)) .nil) (some (.int .i64 n2)) .nil) (some (.string s1)) (.node (.node .nil (some (.bool b5)) .nil) (some (.int .i64 n3)) .nil)) 5 fun h_1 => nxK h fun i_2 => rdK h_1 i_2 4 fun v6 => vBoolE v6 fun b7 => Q (.bool b7) h_1
  | _ => False
theorem k_e2 : KE P d_e2 f_e2 0 0 := by
  intro C D hC hD a h Q H
  unfold d_e2 at H
  split at H
  · show EvQ P f_e2 _ h Q
    refine r_e2 ?_
    revert H
    repeat' with_reducible first
 | refine qac ?_
 | refine qae ?_
 | refine qah (by with_unfolding_all rfl) (by with_unfolding_all rfl) ?_
 | refine qai ?_
 | refine qam fun _ => ?_
 | refine qbc fun _ => ?_
 | exact id
  · exact H.elim
noncomputable def e_e2 : Ent P := ⟨f_e2, 0, 0, d_e2, k_e2⟩
noncomputable def d_dw : BodyT := fun C D a h Q => match a with
  | [.string s1] => addKL h [.int .i64 0, .string (ByteArray.mk #[]), .int .i64 0, .int .i64 0] (.node (.node (.node .nil (some (.int .i64 0)) .nil) (some (.string (ByteArray.mk #[]))) .nil) (some (.int .i64 0)) (.node .nil (some (.int .i64 0)) .nil)) 4 fun h_1 => C f_bx [.string s1] h_1 fun v2 h3 => vTupE v2 fun l4 => lCE l4 fun v5 l6 => vSlE v5 fun p7 m8 m9 => lCE l6 fun v10 l11 => vAggE v10 fun l12 => lCE l12 fun v13 l14 => vIntE' .i64 v13 fun n15 => lCE l14 fun v16 l17 => vIntE' .i64 v16 fun n18 => lNE l17 (lNE l11 (addKL h3 [.int .i64 0, .int .i64 0] (.node (.node .nil (some (.int .i64 0)) .nil) (some (.int .i64 0)) .nil) 2 fun h_2 => nxK h3 fun i_3 => wrLK i_3 [.int .i64 n15, .int .i64 n18] h_2 0 fun h19 => rdK h19 i_3 0 fun v20 => vIntE' .i64 v20 fun n21 => neC n21 0 (rdK h19 i_3 1 fun v22 => vIntE' .i64 v22 fun n23 => C f_bz [.string s1, .int .i64 n23] h19 fun v24 h25 => vTupE v24 fun l26 => lCE l26 fun v27 l28 => vIntE' .i64 v27 fun n29 => lCE l28 fun v30 l31 => vIntE' .i64 v30 fun n32 => lNE l31 (rdK h25 i_3 0 fun v33 => vIntE' .i64 v33 fun n34 => nxK h fun i_4 => wrLK i_4 [.int .i64 n34, .string (ByteArray.mk #[]), .int .i64 n29, .int .i64 n32] h25 0 fun h35 => rdK h35 i_4 0 fun v36 => vIntE' .i64 v36 fun n37 => rdK h35 i_4 1 fun v38 => vStrE v38 fun s39 => rdK h35 i_4 2 fun v40 => vIntE' .i64 v40 fun n41 => rdK h35 i_4 3 fun v42 => vIntE' .i64 v42 fun n43 => Q (.tuple (Array.mk [.slice none 0 0, .agg (Array.mk [.int .i64 n37, .string s39, .int .i64 n41, .int .i64 n43])])) h35)) (nxK h fun i_5 => D f_dw 7 42921794479108 [.pointer (some ⟨i_5, 0, none⟩), .slice none 0 0, .slice p7 m8 m9, .int .i64 (↑m8 : Int), .int .i64 0] h19 Q)))
  | _ => False
theorem k_dw : KE P d_dw f_dw 0 0 := by
  intro C D hC hD a h Q H
  unfold d_dw at H
  split at H
  · show EvQ P f_dw _ h Q
    refine r_dw ?_
    revert H
    repeat' with_reducible first
 | refine qaf hC fun _ _ => ?_
 | refine qag hD (by decide)
 | refine qah (by with_unfolding_all rfl) (by with_unfolding_all rfl) ?_
 | refine qai ?_
 | refine qam fun _ => ?_
 | refine qao fun _ => ?_
 | refine qas fun _ => ?_
 | refine qay ?_ ?_
 | refine qba fun _ => ?_
 | refine qbb fun _ _ _ => ?_
 | refine qbd fun _ _ => ?_
 | refine qbe ?_
 | refine qbf fun _ => ?_
 | refine qbk fun _ => ?_
 | exact id
  · exact H.elim
noncomputable def e_dw : Ent P := ⟨f_dw, 0, 0, d_dw, k_dw⟩
noncomputable def d_dx : BodyT := fun C D a h Q => match a with
  | [.pointer (some ⟨m1, 0, none⟩), .slice p2 m3 m4, .slice p5 m6 m7, .int .i64 n8, .int .i64 n9] => fN m1 fun m1 => fN m3 fun m3 => fN m4 fun m4 => fN m6 fun m6 => fN m7 fun m7 => fI n8 fun n8 => fI n9 fun n9 => ltC n9 n8 (aPE p5 fun m10 m11 => nIdx n9 m6 fun m12 => rdK h m10 (m11 + m12 * 3) fun v13 => vIntE' .i64 v13 fun n14 => rdK h m10 (m11 + m12 * 3 + 1) fun v15 => vBoolE v15 fun b16 => rdK h m10 (m11 + m12 * 3 + 1 + 1) fun v17 => vSlE v17 fun p18 m19 m20 => addKL h [.int .i64 0, .bool false, .slice none 0 0] (.node (.node .nil (some (.bool false)) .nil) (some (.int .i64 0)) (.node .nil (some (.slice none 0 0)) .nil)) 3 fun h_1 => nxK h fun i_2 => wrLK i_2 [.int .i64 n14, .bool b16, .slice p18 m19 m20] h_1 0 fun h21 => rdK h21 i_2 1 fun v22 => vBoolE v22 fun b23 => bCE b23 (gtC (↑m3 : Int) 0 (aPE p2 fun m24 m25 => nIdx (wI64 (subI (↑m3 : Int) 1)) m3 fun m26 => rdK h21 m24 (m25 + m26 * 6) fun v27 => vIntE' .i64 v27 fun n28 => eqC n28 3 (aPE p2 fun m29 m30 => nIdx (wI64 (subI (↑m3 : Int) 1)) m3 fun m31 => rdK h21 m29 (m30 + m31 * 6 + 5) fun v32 => vSlE v32 fun p33 m34 m35 => rdK h21 i_2 0 fun v36 => vIntE' .i64 v36 fun n37 => rdK h21 i_2 1 fun v38 => vBoolE v38 fun b39 => rdK h21 i_2 2 fun v40 => vSlE v40 fun p41 m42 m43 => addKL h21 [.int .i64 n37, .bool b39, .slice p41 m42 m43] (.node (.node .nil (some (.bool b39)) .nil) (some (.int .i64 n37)) (.node .nil (some (.slice p41 m42 m43)) .nil)) 3 fun h_3 => nxK h21 fun i_4 => apK ty_api_Line 3 40 h_3 (.slice p33 m34 m35) (.slice (some ⟨i_4, 0, none⟩) 1 1) fun v44 h45 => vSlE v44 fun p46 m47 m48 => aPE p2 fun m49 m50 => nIdx (wI64 (subI (↑m3 : Int) 1)) m3 fun m51 => wrK h45 m49 (m50 + m51 * 6 + 5) (.slice p46 m47 m48) fun h52 => rdK h_3 m29 (m30 + m31 * 6 + 5) fun v53 => vSlE v53 fun p54 m55 m56 => bCE (sameB (.slice p54 m55 m56) (.slice p33 m34 m35)) (D f_dw 7 42921794479108 [.pointer (some ⟨m1, 0, none⟩), .slice p2 m3 m4, .slice p5 m6 m7, .int .i64 n8, .int .i64 (wI64 (addI n9 1))] h52 Q) False) (rdK h21 i_2 2 fun v57 => vSlE v57 fun p58 m59 m60 => aPE p58 fun m61 m62 => nIdx 0 m59 fun m63 => rdK h21 m61 (m62 + m63 * 5) fun v64 => vStrE v64 fun s65 => rdK h21 m61 (m62 + m63 * 5 + 1) fun v66 => vIntE' .i64 v66 fun n67 => rdK h21 m61 (m62 + m63 * 5 + 1 + 1) fun v68 => vIntE' .i64 v68 fun n69 => rdK h21 m61 (m62 + m63 * 5 + 1 + 1 + 1) fun v70 => vBoolE v70 fun b71 => rdK h21 m61 (m62 + m63 * 5 + 1 + 1 + 1 + 1) fun v72 => vBoolE v72 fun b73 => C f_e3 [.int .i64 120, .agg (Array.mk [.string s65, .int .i64 n67, .int .i64 n69, .bool b71, .bool b73])] h21 fun v74 h75 => vTupE v74 fun l76 => lCE l76 fun v77 l78 => vAggE v77 fun l79 => lCE l79 fun v80 l81 => vIntE' .i64 v80 fun n82 => lCE l81 fun v83 l84 => vIntE' .i64 v83 fun n85 => lCE l84 fun v86 l87 => vStrE v86 fun s88 => lCE l87 fun v89 l90 => vSlE v89 fun p91 m92 m93 => lCE l90 fun v94 l95 => vSlE v94 fun p96 m97 m98 => lCE l95 fun v99 l100 => vSlE v99 fun p101 m102 m103 => lNE l100 (lCE l78 fun v104 l105 => vAggE v104 fun l106 => lCE l106 fun v107 l108 => vIntE' .i64 v107 fun n109 => lCE l108 fun v110 l111 => vStrE v110 fun s112 => lCE l111 fun v113 l114 => vIntE' .i64 v113 fun n115 => lCE l114 fun v116 l117 => vIntE' .i64 v116 fun n118 => lNE l117 (lNE l105 (addKL h75 [.int .i64 0, .int .i64 0, .string (ByteArray.mk #[]), .slice none 0 0, .slice none 0 0, .slice none 0 0] (.node (.node (.node .nil (some (.slice none 0 0)) .nil) (some (.int .i64 0)) (.node .nil (some (.slice none 0 0)) .nil)) (some (.int .i64 0)) (.node (.node .nil (some (.slice none 0 0)) .nil) (some (.string (ByteArray.mk #[]))) .nil)) 6 fun h_5 => addKL h_5 [.int .i64 0, .string (ByteArray.mk #[]), .int .i64 0, .int .i64 0] (.node (.node (.node .nil (some (.int .i64 0)) .nil) (some (.string (ByteArray.mk #[]))) .nil) (some (.int .i64 0)) (.node .nil (some (.int .i64 0)) .nil)) 4 fun h_6 => nxK h75 fun i_7 => wrLK i_7 [.int .i64 n82, .int .i64 n85, .string s88, .slice p91 m92 m93, .slice p96 m97 m98, .slice p101 m102 m103] h_6 0 fun h119 => nxK h_5 fun i_8 => wrLK i_8 [.int .i64 n109, .string s112, .int .i64 n115, .int .i64 n118] h119 0 fun h120 => rdK h120 i_8 0 fun v121 => vIntE' .i64 v121 fun n122 => rdK h120 i_8 1 fun v123 => vStrE v123 fun s124 => rdK h120 i_8 2 fun v125 => vIntE' .i64 v125 fun n126 => rdK h120 i_8 3 fun v127 => vIntE' .i64 v127 fun n128 => wrLK m1 [.int .i64 n122, .string s124, .int .i64 n126, .int .i64 n128] h120 0 fun h129 => rdK h129 m1 0 fun v130 => vIntE' .i64 v130 fun n131 => rdK h129 m1 1 fun v132 => vStrE v132 fun s133 => rdK h129 m1 2 fun v134 => vIntE' .i64 v134 fun n135 => rdK h129 m1 3 fun v136 => vIntE' .i64 v136 fun n137 => Q (.tuple (Array.mk [.slice none 0 0, .agg (Array.mk [.int .i64 n131, .string s133, .int .i64 n135, .int .i64 n137])])) h129))))) (rdK h21 i_2 2 fun v138 => vSlE v138 fun p139 m140 m141 => aPE p139 fun m142 m143 => nIdx 0 m140 fun m144 => rdK h21 m142 (m143 + m144 * 5) fun v145 => vStrE v145 fun s146 => rdK h21 m142 (m143 + m144 * 5 + 1) fun v147 => vIntE' .i64 v147 fun n148 => rdK h21 m142 (m143 + m144 * 5 + 1 + 1) fun v149 => vIntE' .i64 v149 fun n150 => rdK h21 m142 (m143 + m144 * 5 + 1 + 1 + 1) fun v151 => vBoolE v151 fun b152 => rdK h21 m142 (m143 + m144 * 5 + 1 + 1 + 1 + 1) fun v153 => vBoolE v153 fun b154 => C f_e3 [.int .i64 120, .agg (Array.mk [.string s146, .int .i64 n148, .int .i64 n150, .bool b152, .bool b154])] h21 fun v155 h156 => vTupE v155 fun l157 => lCE l157 fun v158 l159 => vAggE v158 fun l160 => lCE l160 fun v161 l162 => vIntE' .i64 v161 fun n163 => lCE l162 fun v164 l165 => vIntE' .i64 v164 fun n166 => lCE l165 fun v167 l168 => vStrE v167 fun s169 => lCE l168 fun v170 l171 => vSlE v170 fun p172 m173 m174 => lCE l171 fun v175 l176 => vSlE v175 fun p177 m178 m179 => lCE l176 fun v180 l181 => vSlE v180 fun p182 m183 m184 => lNE l181 (lCE l159 fun v185 l186 => vAggE v185 fun l187 => lCE l187 fun v188 l189 => vIntE' .i64 v188 fun n190 => lCE l189 fun v191 l192 => vStrE v191 fun s193 => lCE l192 fun v194 l195 => vIntE' .i64 v194 fun n196 => lCE l195 fun v197 l198 => vIntE' .i64 v197 fun n199 => lNE l198 (lNE l186 (addKL h156 [.int .i64 0, .int .i64 0, .string (ByteArray.mk #[]), .slice none 0 0, .slice none 0 0, .slice none 0 0] (.node (.node (.node .nil (some (.slice none 0 0)) .nil) (some (.int .i64 0)) (.node .nil (some (.slice none 0 0)) .nil)) (some (.int .i64 0)) (.node (.node .nil (some (.slice none 0 0)) .nil) (some (.string (ByteArray.mk #[]))) .nil)) 6 fun h_9 => addKL h_9 [.int .i64 0, .string (ByteArray.mk #[]), .int .i64 0, .int .i64 0] (.node (.node (.node .nil (some (.int .i64 0)) .nil) (some (.string (ByteArray.mk #[]))) .nil) (some (.int .i64 0)) (.node .nil (some (.int .i64 0)) .nil)) 4 fun h_10 => nxK h156 fun i_11 => wrLK i_11 [.int .i64 n163, .int .i64 n166, .string s169, .slice p172 m173 m174, .slice p177 m178 m179, .slice p182 m183 m184] h_10 0 fun h200 => nxK h_9 fun i_12 => wrLK i_12 [.int .i64 n190, .string s193, .int .i64 n196, .int .i64 n199] h200 0 fun h201 => rdK h201 i_12 0 fun v202 => vIntE' .i64 v202 fun n203 => rdK h201 i_12 1 fun v204 => vStrE v204 fun s205 => rdK h201 i_12 2 fun v206 => vIntE' .i64 v206 fun n207 => rdK h201 i_12 3 fun v208 => vIntE' .i64 v208 fun n209 => wrLK m1 [.int .i64 n203, .string s205, .int .i64 n207, .int .i64 n209] h201 0 fun h210 => rdK h210 m1 0 fun v211 => vIntE' .i64 v211 fun n212 => rdK h210 m1 1 fun v213 => vStrE v213 fun s214 => rdK h210 m1 2 fun v215 => vIntE' .i64 v215 fun n216 => rdK h210 m1 3 fun v217 => vIntE' .i64 v217 fun n218 => Q (.tuple (Array.mk [.slice none 0 0, .agg (Array.mk [.int .i64 n212, .string s214, .int .i64 n216, .int .i64 n218])])) h210))))) (rdK h21 i_2 0 fun v219 => vIntE' .i64 v219 fun n220 => rdK h21 i_2 1 fun v221 => vBoolE v221 fun b222 => rdK h21 i_2 2 fun v223 => vSlE v223 fun p224 m225 m226 => C f_dy [.agg (Array.mk [.int .i64 n220, .bool b222, .slice p224 m225 m226])] h21 fun v227 h228 => vTupE v227 fun l229 => lCE l229 fun v230 l231 => vAggE v230 fun l232 => lCE l232 fun v233 l234 => vIntE' .i64 v233 fun n235 => lCE l234 fun v236 l237 => vIntE' .i64 v236 fun n238 => lCE l237 fun v239 l240 => vStrE v239 fun s241 => lCE l240 fun v242 l243 => vSlE v242 fun p244 m245 m246 => lCE l243 fun v247 l248 => vSlE v247 fun p249 m250 m251 => lCE l248 fun v252 l253 => vSlE v252 fun p254 m255 m256 => lNE l253 (lCE l231 fun v257 l258 => vAggE v257 fun l259 => lCE l259 fun v260 l261 => vIntE' .i64 v260 fun n262 => lCE l261 fun v263 l264 => vStrE v263 fun s265 => lCE l264 fun v266 l267 => vIntE' .i64 v266 fun n268 => lCE l267 fun v269 l270 => vIntE' .i64 v269 fun n271 => lNE l270 (lNE l258 (addKL h228 [.int .i64 0, .int .i64 0, .string (ByteArray.mk #[]), .slice none 0 0, .slice none 0 0, .slice none 0 0] (.node (.node (.node .nil (some (.slice none 0 0)) .nil) (some (.int .i64 0)) (.node .nil (some (.slice none 0 0)) .nil)) (some (.int .i64 0)) (.node (.node .nil (some (.slice none 0 0)) .nil) (some (.string (ByteArray.mk #[]))) .nil)) 6 fun h_13 => addKL h_13 [.int .i64 0, .string (ByteArray.mk #[]), .int .i64 0, .int .i64 0] (.node (.node (.node .nil (some (.int .i64 0)) .nil) (some (.string (ByteArray.mk #[]))) .nil) (some (.int .i64 0)) (.node .nil (some (.int .i64 0)) .nil)) 4 fun h_14 => nxK h228 fun i_15 => wrLK i_15 [.int .i64 n235, .int .i64 n238, .string s241, .slice p244 m245 m246, .slice p249 m250 m251, .slice p254 m255 m256] h_14 0 fun h272 => nxK h_13 fun i_16 => wrLK i_16 [.int .i64 n262, .string s265, .int .i64 n268, .int .i64 n271] h272 0 fun h273 => rdK h273 i_16 0 fun v274 => vIntE' .i64 v274 fun n275 => neC n275 0 (rdK h273 i_16 0 fun v276 => vIntE' .i64 v276 fun n277 => rdK h273 i_16 1 fun v278 => vStrE v278 fun s279 => rdK h273 i_16 2 fun v280 => vIntE' .i64 v280 fun n281 => rdK h273 i_16 3 fun v282 => vIntE' .i64 v282 fun n283 => wrLK m1 [.int .i64 n277, .string s279, .int .i64 n281, .int .i64 n283] h273 0 fun h284 => rdK h284 m1 0 fun v285 => vIntE' .i64 v285 fun n286 => rdK h284 m1 1 fun v287 => vStrE v287 fun s288 => rdK h284 m1 2 fun v289 => vIntE' .i64 v289 fun n290 => rdK h284 m1 3 fun v291 => vIntE' .i64 v291 fun n292 => Q (.tuple (Array.mk [.slice none 0 0, .agg (Array.mk [.int .i64 n286, .string s288, .int .i64 n290, .int .i64 n292])])) h284) (rdK h273 i_15 0 fun v293 => vIntE' .i64 v293 fun n294 => rdK h273 i_15 1 fun v295 => vIntE' .i64 v295 fun n296 => rdK h273 i_15 2 fun v297 => vStrE v297 fun s298 => rdK h273 i_15 3 fun v299 => vSlE v299 fun p300 m301 m302 => rdK h273 i_15 4 fun v303 => vSlE v303 fun p304 m305 m306 => rdK h273 i_15 5 fun v307 => vSlE v307 fun p308 m309 m310 => addKL h273 [.int .i64 n294, .int .i64 n296, .string s298, .slice p300 m301 m302, .slice p304 m305 m306, .slice p308 m309 m310] (.node (.node (.node .nil (some (.slice p300 m301 m302)) .nil) (some (.int .i64 n296)) (.node .nil (some (.slice p308 m309 m310)) .nil)) (some (.int .i64 n294)) (.node (.node .nil (some (.slice p304 m305 m306)) .nil) (some (.string s298)) .nil)) 6 fun h_17 => nxK h273 fun i_18 => apK ty_api_RuleItem 6 104 h_17 (.slice p2 m3 m4) (.slice (some ⟨i_18, 0, none⟩) 1 1) fun v311 h312 => vSlE v311 fun p313 m314 m315 => D f_dw 7 42921794479108 [.pointer (some ⟨m1, 0, none⟩), .slice p313 m314 m315, .slice p5 m6 m7, .int .i64 n8, .int .i64 (wI64 (addI n9 1))] h312 Q)))))) (wrLK m1 [.int .i64 0, .string (ByteArray.mk #[]), .int .i64 0, .int .i64 0] h 0 fun h316 => rdK h316 m1 0 fun v317 => vIntE' .i64 v317 fun n318 => rdK h316 m1 1 fun v319 => vStrE v319 fun s320 => rdK h316 m1 2 fun v321 => vIntE' .i64 v321 fun n322 => rdK h316 m1 3 fun v323 => vIntE' .i64 v323 fun n324 => Q (.tuple (Array.mk [.slice p2 m3 m4, .agg (Array.mk [.int .i64 n318, .string s320, .int .i64 n322, .int .i64 n324])])) h316)
  | _ => False
theorem k_dx : KE P d_dx f_dw 8 42921794479108 := by
  intro C D hC hD a h Q H
  unfold d_dx at H
  split at H
  · show unitAt P f_dw 7 (decL 42921794479108) _ h Q
    rw [show decL 42921794479108 = [3, 8, 36, 37, 38] from by decide]
    refine r_dx ?_
    simp only [wI64_eq, addI_eq, subI_eq] at H
    revert H
    repeat' with_reducible first
 | refine qbr ti_ty_sl_api_Line rfl ti_ty_api_Line rfl rfl rfl ti_ty_sl_api_Line rfl fun _ _ => ?_
 | refine qbr ti_ty_sl_api_RuleItem rfl ti_ty_api_RuleItem rfl rfl rfl ti_ty_sl_api_RuleItem rfl fun _ _ => ?_
 | refine qac ?_
 | refine qad ?_
 | refine qaf hC fun _ _ => ?_
 | refine qag hD (by decide)
 | refine qah (by with_unfolding_all rfl) (by with_unfolding_all rfl) ?_
 | refine qai ?_
 | refine qam fun _ => ?_
 | refine qan fun _ => ?_
 | refine qao fun _ => ?_
 | refine qaq fun _ => ?_
 | refine qas fun _ => ?_
 | refine qat ?_ ?_
 | refine qav ?_ ?_
 | refine qax ?_ ?_
 | refine qay ?_ ?_
 | refine qba fun _ => ?_
 | refine qbb fun _ _ _ => ?_
 | refine qbc fun _ => ?_
 | refine qbd fun _ _ => ?_
 | refine qbe ?_
 | refine qbf fun _ => ?_
 | refine qbh fun _ _ => ?_
 | refine qbk fun _ => ?_
 | refine qbo ?_
 | refine qbp ?_
 | refine qbq ?_ ?_
 | exact id
  · exact H.elim
noncomputable def e_dx : Ent P := ⟨f_dw, 8, 42921794479108, d_dx, k_dx⟩
noncomputable def d_dg : BodyT := fun C D a h Q => match a with
  | [.pointer p1, .int .u8 n2] => fI n2 fun n2 => C f_di [.pointer p1] h fun v3 h4 => aPE p1 fun m5 m6 => rdK h4 m5 (m6 + 1) fun v7 => vSlE v7 fun p8 m9 m10 => addKL h4 [.int .u8 n2] (.node .nil (some (.int .u8 n2)) .nil) 1 fun h_1 => nxK h4 fun i_2 => apK ty_uint8 1 1 h_1 (.slice p8 m9 m10) (.slice (some ⟨i_2, 0, none⟩) 1 1) fun v11 h12 => vSlE v11 fun p13 m14 m15 => aPE p1 fun m16 m17 => wrK h12 m16 (m17 + 1) (.slice p13 m14 m15) fun h18 => Q .nilIface h18
  | _ => False
theorem k_dg : KE P d_dg f_dg 0 0 := by
  intro C D hC hD a h Q H
  unfold d_dg at H
  split at H
  · show EvQ P f_dg _ h Q
    refine r_dg ?_
    revert H
    repeat' with_reducible first
 | refine qbr ti_ty_sl_uint8 rfl ti_ty_uint8 rfl rfl rfl ti_ty_sl_uint8 rfl fun _ _ => ?_
 | refine qac ?_
 | refine qaf hC fun _ _ => ?_
 | refine qah (by with_unfolding_all rfl) (by with_unfolding_all rfl) ?_
 | refine qai ?_
 | refine qam fun _ => ?_
 | refine qan fun _ => ?_
 | refine qbb fun _ _ _ => ?_
 | refine qbh fun _ _ => ?_
 | exact id
  · exact H.elim
noncomputable def e_dg : Ent P := ⟨f_dg, 0, 0, d_dg, k_dg⟩
noncomputable def d_a7 : BodyT := fun C D a h Q => match a with
  | [.slice p1 m2 m3] => fN m2 fun m2 => fN m3 fun m3 => C f_a1 [.slice p1 m2 m3] h fun v4 h5 => vTupE v4 fun l6 => lCE l6 fun v7 l8 => vSlE v7 fun p9 m10 m11 => lCE l8 fun v12 l13 => vIntE' .i64 v12 fun n14 => lNE l13 (neC n14 0 (Q (.tuple (Array.mk [.string (ByteArray.mk #[]), .int .i64 n14])) h5) (nxK h5 fun i_1 => addKL h5 [.pointer none, .slice none 0 0] (.node (.node .nil (some (.slice none 0 0)) .nil) (some (.pointer none)) .nil) 2 fun h_2 => tagK h_2 i_1 ty_strings_Builder fun h_3 => D f_a7 6 23644360711 [.pointer (some ⟨i_1, 0, none⟩), .slice p9 m10 m11, .int .i64 (↑m10 : Int), .int .i64 0] h_3 Q))
  | _ => False
theorem k_a7 : KE P d_a7 f_a7 0 0 := by
  intro C D hC hD a h Q H
  unfold d_a7 at H
  split at H
  · show EvQ P f_a7 _ h Q
    refine r_a7 ?_
    revert H
    repeat' with_reducible first
 | refine qad ?_
 | refine qaf hC fun _ _ => ?_
 | refine qag hD (by decide)
 | refine qah (by with_unfolding_all rfl) (by with_unfolding_all rfl) ?_
 | refine qai ?_
 | refine qal ?_
 | refine qas fun _ => ?_
 | refine qay ?_ ?_
 | refine qbb fun _ _ _ => ?_
 | refine qbd fun _ _ => ?_
 | refine qbe ?_
 | refine qbf fun _ => ?_
 | exact id
  · exact H.elim
noncomputable def e_a7 : Ent P := ⟨f_a7, 0, 0, d_a7, k_a7⟩
noncomputable def d_a9 : BodyT := fun C D a h Q => match a with
  | [.pointer (some ⟨m1, 0, none⟩), .slice p2 m3 m4, .int .i64 n5, .int .i64 n6] => fN m1 fun m1 => fN m3 fun m3 => fN m4 fun m4 => fI n5 fun n5 => fI n6 fun n6 => ltC n6 n5 (aPE p2 fun m7 m8 => nIdx n6 m3 fun m9 => rdK h m7 (m8 + m9 * 1) fun v10 => vSlE v10 fun p11 m12 m13 => D f_a7 9 32312230037423149063 [.pointer (some ⟨m1, 0, none⟩), .slice p2 m3 m4, .int .i64 n5, .int .i64 n6, .slice p11 m12 m13, .int .i64 (↑m12 : Int), .int .i64 0] h Q) (C f_df [.pointer (some ⟨m1, 0, none⟩)] h fun v14 h15 => vStrE v14 fun s16 => Q (.tuple (Array.mk [.string s16, .int .i64 0])) h15)
  | _ => False
theorem k_a9 : KE P d_a9 f_a7 7 23644360711 := by
  intro C D hC hD a h Q H
  unfold d_a9 at H
  split at H
  · show unitAt P f_a7 6 (decL 23644360711) _ h Q
    rw [show decL 23644360711 = [6, 19, 20, 21] from by decide]
    refine r_a9 ?_
    revert H
    repeat' with_reducible first
 | refine qac ?_
 | refine qad ?_
 | refine qaf hC fun _ _ => ?_
 | refine qag hD (by decide)
 | refine qam fun _ => ?_
 | refine qaq fun _ => ?_
 | refine qat ?_ ?_
 | refine qba fun _ => ?_
 | refine qbb fun _ _ _ => ?_
 | refine qbh fun _ _ => ?_
 | exact id
  · exact H.elim
noncomputable def e_a9 : Ent P := ⟨f_a7, 7, 23644360711, d_a9, k_a9⟩
noncomputable def d_aa : BodyT := fun C D a h Q => match a with
  | [.pointer (some ⟨m1, 0, none⟩), .slice p2 m3 m4, .int .i64 n5, .int .i64 n6, .slice p7 m8 m9, .int .i64 n10, .int .i64 n11] => fN m1 fun m1 => fN m3 fun m3 => fN m4 fun m4 => fI n5 fun n5 => fI n6 fun n6 => fN m8 fun m8 => fN m9 fun m9 => fI n10 fun n10 => fI n11 fun n11 => ltC n11 n10 (aPE p7 fun m12 m13 => nIdx n11 m8 fun m14 => rdK h m12 (m13 + m14 * 1) fun v15 => vStrE v15 fun s16 => gtC n11 0 (C f_dg [.pointer (some ⟨m1, 0, none⟩), .int .u8 32] h fun v17 h18 => vIfcE v17 (D f_a7 13 33087723558321304644615 [.pointer (some ⟨m1, 0, none⟩), .string s16, .slice p2 m3 m4, .int .i64 n5, .int .i64 n6, .slice p7 m8 m9, .int .i64 n10, .int .i64 n11] h18 Q) fun m19 v20 => D f_a7 13 33087723558321304644615 [.pointer (some ⟨m1, 0, none⟩), .string s16, .slice p2 m3 m4, .int .i64 n5, .int .i64 n6, .slice p7 m8 m9, .int .i64 n10, .int .i64 n11] h18 Q) (D f_a7 13 33087723558321304644615 [.pointer (some ⟨m1, 0, none⟩), .string s16, .slice p2 m3 m4, .int .i64 n5, .int .i64 n6, .slice p7 m8 m9, .int .i64 n10, .int .i64 n11] h Q)) (C f_dg [.pointer (some ⟨m1, 0, none⟩), .int .u8 10] h fun v21 h22 => vIfcE v21 (D f_a7 6 23644360711 [.pointer (some ⟨m1, 0, none⟩), .slice p2 m3 m4, .int .i64 n5, .int .i64 (wI64 (addI n6 1))] h22 Q) fun m23 v24 => D f_a7 6 23644360711 [.pointer (some ⟨m1, 0, none⟩), .slice p2 m3 m4, .int .i64 n5, .int .i64 (wI64 (addI n6 1))] h22 Q)
  | _ => False
theorem k_aa : KE P d_aa f_a7 10 32312230037423149063 := by
  intro C D hC hD a h Q H
  unfold d_aa at H
  split at H
  · show unitAt P f_a7 9 (decL 32312230037423149063) _ h Q
    rw [show decL 32312230037423149063 = [6, 19, 20, 21, 25, 26, 27] from by decide]
    refine r_aa ?_
    simp only [wI64_eq, addI_eq] at H
    revert H
    repeat' with_reducible first
 | refine qac ?_
 | refine qad ?_
 | refine qaf hC fun _ _ => ?_
 | refine qag hD (by decide)
 | refine qam fun _ => ?_
 | refine qaq fun _ => ?_
 | refine qat ?_ ?_
 | refine qav ?_ ?_
 | refine qba fun _ => ?_
 | refine qbh fun _ _ => ?_
 | refine qbj ?_ fun _ _ => ?_
 | exact id
  · exact H.elim
noncomputable def e_aa : Ent P := ⟨f_a7, 10, 32312230037423149063, d_aa, k_aa⟩
noncomputable def d_a8 : BodyT := fun C D a h Q => match a with
  | [.pointer (some ⟨m1, 0, none⟩), .string s2, .slice p3 m4 m5, .int .i64 n6, .int .i64 n7, .slice p8 m9 m10, .int .i64 n11, .int .i64 n12] => fN m1 fun m1 => fN m4 fun m4 => fN m5 fun m5 => fI n6 fun n6 => fI n7 fun n7 => fN m9 fun m9 => fN m10 fun m10 => fI n11 fun n11 => fI n12 fun n12 => C f_c3 [.string s2] h fun v13 h14 => vStrE v13 fun s15 => C f_dh [.pointer (some ⟨m1, 0, none⟩), .string s15] h14 fun v16 h17 => vTupE v16 fun l18 => lCE l18 fun v19 l20 => vIntE' .i64 v19 fun n21 => lCE l20 fun v22 l23 => vIfcE v22 (lNE l23 (D f_a7 9 32312230037423149063 [.pointer (some ⟨m1, 0, none⟩), .slice p3 m4 m5, .int .i64 n6, .int .i64 n7, .slice p8 m9 m10, .int .i64 n11, .int .i64 (wI64 (addI n12 1))] h17 Q)) fun m24 v25 => lNE l23 (D f_a7 9 32312230037423149063 [.pointer (some ⟨m1, 0, none⟩), .slice p3 m4 m5, .int .i64 n6, .int .i64 n7, .slice p8 m9 m10, .int .i64 n11, .int .i64 (wI64 (addI n12 1))] h17 Q)
  | _ => False
theorem k_a8 : KE P d_a8 f_a7 14 33087723558321304644615 := by
  intro C D hC hD a h Q H
  unfold d_a8 at H
  split at H
  · show unitAt P f_a7 13 (decL 33087723558321304644615) _ h Q
    rw [show decL 33087723558321304644615 = [6, 10, 19, 20, 21, 25, 26, 27] from by decide]
    refine r_a8 ?_
    simp only [wI64_eq, addI_eq] at H
    revert H
    repeat' with_reducible first
 | refine qac ?_
 | refine qad ?_
 | refine qaf hC fun _ _ => ?_
 | refine qag hD (by decide)
 | refine qas fun _ => ?_
 | refine qba fun _ => ?_
 | refine qbd fun _ _ => ?_
 | refine qbe ?_
 | refine qbf fun _ => ?_
 | refine qbj ?_ fun _ _ => ?_
 | exact id
  · exact H.elim
noncomputable def e_a8 : Ent P := ⟨f_a7, 14, 33087723558321304644615, d_a8, k_a8⟩
noncomputable def d_db : BodyT := fun C D a h Q => match a with
  | [.pointer p1, .int .i64 n2] => fI n2 fun n2 => C f_di [.pointer p1] h fun v3 h4 => ltC n2 0 (False) (D f_db 3 2049 [.pointer p1, .int .i64 n2] h4 Q)
  | _ => False
theorem k_db : KE P d_db f_db 0 0 := by
  intro C D hC hD a h Q H
  unfold d_db at H
  split at H
  · show EvQ P f_db _ h Q
    refine r_db ?_
    revert H
    repeat' with_reducible first
 | refine qac ?_
 | refine qaf hC fun _ _ => ?_
 | refine qag hD (by decide)
 | refine qat ?_ ?_
 | exact id
  · exact H.elim
noncomputable def e_db : Ent P := ⟨f_db, 0, 0, d_db, k_db⟩
noncomputable def d_dc : BodyT := fun C D a h Q => match a with
  | [.pointer p1, .int .i64 n2] => fI n2 fun n2 => aPE p1 fun m3 m4 => rdK h m3 (m4 + 1) fun v5 => vSlE v5 fun p6 m7 m8 => oQ (capB P h (Array.mk [ty_sl_uint8]) [.slice p6 m7 m8]) fun v9 => vIntE' .i64 v9 fun n10 => aPE p1 fun m11 m12 => rdK h m11 (m12 + 1) fun v13 => vSlE v13 fun p14 m15 m16 => ltC (wI64 (subI n10 (↑m15 : Int))) n2 (C f_dj [.pointer p1, .int .i64 n2] h fun v17 h18 => Q (.tuple (Array.mk [])) h18) (Q (.tuple (Array.mk [])) h)
  | _ => False
theorem k_dc : KE P d_dc f_db 4 2049 := by
  intro C D hC hD a h Q H
  unfold d_dc at H
  split at H
  · show unitAt P f_db 3 (decL 2049) _ h Q
    rw [show decL 2049 = [0, 1] from by decide]
    refine r_dc ?_
    simp only [wI64_eq, subI_eq] at H
    revert H
    repeat' with_reducible first
 | refine qac ?_
 | refine qaf hC fun _ _ => ?_
 | refine qam fun _ => ?_
 | refine qas fun _ => ?_
 | refine qat ?_ ?_
 | refine qbb fun _ _ _ => ?_
 | refine qbh fun _ _ => ?_
 | refine qbn fun _ => ?_
 | exact id
  · exact H.elim
noncomputable def e_dc : Ent P := ⟨f_db, 4, 2049, d_dc, k_dc⟩
noncomputable def d_dd : BodyT := fun C D a h Q => match a with
  | [.pointer p1] => aPE p1 fun m2 m3 => rdK h m2 (m3 + 1) fun v4 => vSlE v4 fun p5 m6 m7 => Q (.int .i64 (↑m6 : Int)) h
  | _ => False
theorem k_dd : KE P d_dd f_dd 0 0 := by
  intro C D hC hD a h Q H
  unfold d_dd at H
  split at H
  · show EvQ P f_dd _ h Q
    refine r_dd ?_
    revert H
    repeat' with_reducible first
 | refine qam fun _ => ?_
 | refine qbb fun _ _ _ => ?_
 | refine qbh fun _ _ => ?_
 | exact id
  · exact H.elim
noncomputable def e_dd : Ent P := ⟨f_dd, 0, 0, d_dd, k_dd⟩
end
end Go.Proofs.YtamoepfiodgbbaaGreatDoor.E
end

section
/- Bodies that the kernel can run, printed by a program of ours. -/
namespace Go.Proofs.YtamoepfiodgbbaaGreatDoor.E
open Go.Abs
set_option maxRecDepth 100000
set_option maxHeartbeats 4000000
section
noncomputable def d_bx : BodyT := fun C D a h Q => match a with
  | [.string s1] => gtC (↑(szE s1) : Int) 32768 (addKL h [.slice none 0 0] (.node .nil (some (.slice none 0 0)) .nil) 1 fun h_1 => addKL h_1 [.int .i64 0, .int .i64 0] (.node (.node .nil (some (.int .i64 0)) .nil) (some (.int .i64 0)) .nil) 2 fun h_2 => nxK h fun i_3 => wrK h_2 i_3 0 (.slice none 0 0) fun h2 => nxK h_1 fun i_4 => wrLK i_4 [.int .i64 3, .int .i64 32768] h2 0 fun h3 => rdK h3 i_3 0 fun v4 => vSlE v4 fun p5 m6 m7 => rdK h3 i_4 0 fun v8 => vIntE' .i64 v8 fun n9 => rdK h3 i_4 1 fun v10 => vIntE' .i64 v10 fun n11 => Q (.tuple (Array.mk [.slice p5 m6 m7, .agg (Array.mk [.int .i64 n9, .int .i64 n11])])) h3) (addKL h [.slice none 0 0] (.node .nil (some (.slice none 0 0)) .nil) 1 fun h_5 => addKL h_5 [.int .i64 0, .int .i64 0] (.node (.node .nil (some (.int .i64 0)) .nil) (some (.int .i64 0)) .nil) 2 fun h_6 => nxK h_6 fun i_7 => addKL h_6 [.string s1, .int .i64 0, .int .i64 1, .int .i64 0] (.node (.node (.node .nil (some (.int .i64 0)) .nil) (some (.int .i64 0)) .nil) (some (.string s1)) (.node .nil (some (.int .i64 1)) .nil)) 4 fun h_8 => C f_d0 [.pointer (some ⟨i_7, 0, none⟩)] h_8 fun v12 h13 => vSlE v12 fun p14 m15 m16 => nxK h fun i_9 => wrK h13 i_9 0 (.slice p14 m15 m16) fun h17 => nxK h_5 fun i_10 => wrLK i_10 [.int .i64 0, .int .i64 0] h17 0 fun h18 => rdK h18 i_9 0 fun v19 => vSlE v19 fun p20 m21 m22 => rdK h18 i_10 0 fun v23 => vIntE' .i64 v23 fun n24 => rdK h18 i_10 1 fun v25 => vIntE' .i64 v25 fun n26 => Q (.tuple (Array.mk [.slice p20 m21 m22, .agg (Array.mk [.int .i64 n24, .int .i64 n26])])) h18)
  | _ => False
theorem k_bx : KE P d_bx f_bx 0 0 := by
  intro C D hC hD a h Q H
  unfold d_bx at H
  split at H
  · show EvQ P f_bx _ h Q
    refine r_bx ?_
    simp only [szE_eq] at H
    revert H
    repeat' with_reducible first
 | refine qaf hC fun _ _ => ?_
 | refine qah (by with_unfolding_all rfl) (by with_unfolding_all rfl) ?_
 | refine qai ?_
 | refine qam fun _ => ?_
 | refine qan fun _ => ?_
 | refine qao fun _ => ?_
 | refine qas fun _ => ?_
 | refine qav ?_ ?_
 | refine qbb fun _ _ _ => ?_
 | exact id
  · exact H.elim
noncomputable def e_bx : Ent P := ⟨f_bx, 0, 0, d_bx, k_bx⟩
noncomputable def d_dh : BodyT := fun C D a h Q => match a with
  | [.pointer p1, .string s2] => C f_di [.pointer p1] h fun v3 h4 => aPE p1 fun m5 m6 => rdK h4 m5 (m6 + 1) fun v7 => vSlE v7 fun p8 m9 m10 => apK ty_uint8 1 1 h4 (.slice p8 m9 m10) (.string s2) fun v11 h12 => vSlE v11 fun p13 m14 m15 => aPE p1 fun m16 m17 => wrK h12 m16 (m17 + 1) (.slice p13 m14 m15) fun h18 => Q (.tuple (Array.mk [.int .i64 (↑(szE s2) : Int), .nilIface])) h18
  | _ => False
theorem k_dh : KE P d_dh f_dh 0 0 := by
  intro C D hC hD a h Q H
  unfold d_dh at H
  split at H
  · show EvQ P f_dh _ h Q
    refine r_dh ?_
    simp only [szE_eq] at H
    revert H
    repeat' with_reducible first
 | refine qbr ti_ty_sl_uint8 rfl ti_ty_uint8 rfl rfl rfl ti_ty_string rfl fun _ _ => ?_
 | refine qaf hC fun _ _ => ?_
 | refine qam fun _ => ?_
 | refine qan fun _ => ?_
 | refine qbb fun _ _ _ => ?_
 | refine qbh fun _ _ => ?_
 | exact id
  · exact H.elim
noncomputable def e_dh : Ent P := ⟨f_dh, 0, 0, d_dh, k_dh⟩
noncomputable def d_fk : BodyT := fun C D a h Q => match a with
  | [.string s1, .string s2] => C f_fm [.string s1, .string s2, .int .i64 (↑(szE s2) : Int), .int .i64 (Int.negSucc 0)] h fun v3 h4 => vSlE v3 fun p5 m6 m7 => Q (.slice p5 m6 m7) h4
  | _ => False
theorem k_fk : KE P d_fk f_fk 0 0 := by
  intro C D hC hD a h Q H
  unfold d_fk at H
  split at H
  · show EvQ P f_fk _ h Q
    refine r_fk ?_
    simp only [szE_eq] at H
    revert H
    repeat' with_reducible first
 | refine qaf hC fun _ _ => ?_
 | refine qbb fun _ _ _ => ?_
 | exact id
  · exact H.elim
noncomputable def e_fk : Ent P := ⟨f_fk, 0, 0, d_fk, k_fk⟩
noncomputable def d_e1 : BodyT := fun C D a h Q => match a with
  | [.slice p1 m2 m3] => fN m2 fun m2 => fN m3 fun m3 => C f_e8 [.slice p1 m2 m3, .func (Fn.func f_e2) (Array.mk []) (Array.mk [])] h fun v4 h5 => vIntE' .i64 v4 fun n6 => Q (.int .i64 (if Int.negSucc 0 > n6 then Int.negSucc 0 else n6)) h5
  | _ => False
theorem k_e1 : KE P d_e1 f_e1 0 0 := by
  intro C D hC hD a h Q H
  unfold d_e1 at H
  split at H
  · show EvQ P f_e1 _ h Q
    refine r_e1 ?_
    revert H
    repeat' with_reducible first
 | refine qad ?_
 | refine qaf hC fun _ _ => ?_
 | refine qas fun _ => ?_
 | exact id
  · exact H.elim
noncomputable def e_e1 : Ent P := ⟨f_e1, 0, 0, d_e1, k_e1⟩
noncomputable def d_a1 : BodyT := fun C D a h Q => match a with
  | [.slice p1 m2 m3] => fN m2 fun m2 => fN m3 fun m3 => C f_a2 [.slice p1 m2 m3] h fun v4 h5 => vBoolE v4 fun b6 => bCE (!b6) (Q (.tuple (Array.mk [.slice none 0 0, .int .i64 2])) h5) (C f_af [.slice p1 m2 m3] h5 fun v7 h8 => vSlE v7 fun p9 m10 m11 => Q (.tuple (Array.mk [.slice p9 m10 m11, .int .i64 0])) h8)
  | _ => False
theorem k_a1 : KE P d_a1 f_a1 0 0 := by
  intro C D hC hD a h Q H
  unfold d_a1 at H
  split at H
  · show EvQ P f_a1 _ h Q
    refine r_a1 ?_
    revert H
    repeat' with_reducible first
 | refine qad ?_
 | refine qaf hC fun _ _ => ?_
 | refine qbb fun _ _ _ => ?_
 | refine qbc fun _ => ?_
 | refine qbo ?_
 | refine qbp ?_
 | refine qbq ?_ ?_
 | exact id
  · exact H.elim
noncomputable def e_a1 : Ent P := ⟨f_a1, 0, 0, d_a1, k_a1⟩
noncomputable def d_f9 : BodyT := fun C D a h Q => match a with
  | [.string s1, .int .u8 n2] => fI n2 fun n2 => C f_fw [.string s1, .int .u8 n2] h fun v3 h4 => vIntE' .i64 v3 fun n5 => Q (.int .i64 n5) h4
  | _ => False
theorem k_f9 : KE P d_f9 f_f9 0 0 := by
  intro C D hC hD a h Q H
  unfold d_f9 at H
  split at H
  · show EvQ P f_f9 _ h Q
    refine r_f9 ?_
    revert H
    repeat' with_reducible first
 | refine qac ?_
 | refine qaf hC fun _ _ => ?_
 | refine qas fun _ => ?_
 | exact id
  · exact H.elim
noncomputable def e_f9 : Ent P := ⟨f_f9, 0, 0, d_f9, k_f9⟩
noncomputable def d_cb : BodyT := fun C D a h Q => match a with
  | [.pointer p1] => bCE (Option.isNone p1) (Q (.slice none 0 0) h) (aPE p1 fun m2 m3 => rdK h m2 (m3 + 3) fun v4 => vSlE v4 fun p5 m6 m7 => C f_e6 [.slice p5 m6 m7] h fun v8 h9 => vSlE v8 fun p10 m11 m12 => Q (.slice p10 m11 m12) h9)
  | _ => False
theorem k_cb : KE P d_cb f_cb 0 0 := by
  intro C D hC hD a h Q H
  unfold d_cb at H
  split at H
  · show EvQ P f_cb _ h Q
    refine r_cb ?_
    revert H
    repeat' with_reducible first
 | refine qaf hC fun _ _ => ?_
 | refine qam fun _ => ?_
 | refine qbb fun _ _ _ => ?_
 | refine qbh fun _ _ => ?_
 | refine qbo ?_
 | refine qbp ?_
 | refine qbq ?_ ?_
 | exact id
  · exact H.elim
noncomputable def e_cb : Ent P := ⟨f_cb, 0, 0, d_cb, k_cb⟩
noncomputable def d_df : BodyT := fun C D a h Q => match a with
  | [.pointer p1] => aPE p1 fun m2 m3 => rdK h m2 (m3 + 1) fun v4 => vSlE v4 fun p5 m6 m7 => oQ (sdataB [.slice p5 m6 m7]) fun v8 => vPtrE v8 fun p9 => aPE p1 fun m10 m11 => rdK h m10 (m11 + 1) fun v12 => vSlE v12 fun p13 m14 m15 => oPK (ustrB P h (Array.mk [ty_p_uint8, ty_int]) [.pointer p9, .int .i64 (↑m14 : Int)]) fun v16 h17 => vStrE v16 fun s18 => Q (.string s18) h17
  | _ => False
theorem k_df : KE P d_df f_df 0 0 := by
  intro C D hC hD a h Q H
  unfold d_df at H
  split at H
  · show EvQ P f_df _ h Q
    refine r_df ?_
    revert H
    repeat' with_reducible first
 | refine qam fun _ => ?_
 | refine qba fun _ => ?_
 | refine qbb fun _ _ _ => ?_
 | refine qbg fun _ _ => ?_
 | refine qbh fun _ _ => ?_
 | refine qbi fun _ => ?_
 | refine qbn fun _ => ?_
 | exact id
  · exact H.elim
noncomputable def e_df : Ent P := ⟨f_df, 0, 0, d_df, k_df⟩
noncomputable def d_ak : BodyT := fun C D a h Q => match a with
  | [.slice p1 m2 m3, .int .i64 n4] => fN m2 fun m2 => fN m3 fun m3 => fI n4 fun n4 => D f_ak 2 10746863618 [.int .i64 n4, .slice p1 m2 m3, .int .i64 (↑m2 : Int), .int .i64 0] h Q
  | _ => False
theorem k_ak : KE P d_ak f_ak 0 0 := by
  intro C D hC hD a h Q H
  unfold d_ak at H
  split at H
  · show EvQ P f_ak _ h Q
    refine r_ak ?_
    revert H
    repeat' with_reducible first
 | refine qac ?_
 | refine qad ?_
 | refine qag hD (by decide)
 | exact id
  · exact H.elim
noncomputable def e_ak : Ent P := ⟨f_ak, 0, 0, d_ak, k_ak⟩
noncomputable def d_al : BodyT := fun C D a h Q => match a with
  | [.int .i64 n1, .slice p2 m3 m4, .int .i64 n5, .int .i64 n6] => fI n1 fun n1 => fN m3 fun m3 => fN m4 fun m4 => fI n5 fun n5 => fI n6 fun n6 => ltC n6 n5 (aPE p2 fun m7 m8 => nIdx n6 m3 fun m9 => rdK h m7 (m8 + m9 * 4) fun v10 => vIntE' .i64 v10 fun n11 => rdK h m7 (m8 + m9 * 4 + 1) fun v12 => vSlE v12 fun p13 m14 m15 => rdK h m7 (m8 + m9 * 4 + 1 + 1) fun v16 => vIntE' .i64 v16 fun n17 => rdK h m7 (m8 + m9 * 4 + 1 + 1 + 1) fun v18 => vSlE v18 fun p19 m20 m21 => addKL h [.int .i64 0, .slice none 0 0, .int .i64 0, .slice none 0 0] (.node (.node (.node .nil (some (.slice none 0 0)) .nil) (some (.slice none 0 0)) .nil) (some (.int .i64 0)) (.node .nil (some (.int .i64 0)) .nil)) 4 fun h_1 => nxK h fun i_2 => wrLK i_2 [.int .i64 n11, .slice p13 m14 m15, .int .i64 n17, .slice p19 m20 m21] h_1 0 fun h22 => rdK h22 i_2 0 fun v23 => vIntE' .i64 v23 fun n24 => ltC n24 1 (Q (.bool false) h22) (rdK h22 i_2 0 fun v25 => vIntE' .i64 v25 fun n26 => gtC n26 12 (Q (.bool false) h22) (rdK h22 i_2 0 fun v27 => vIntE' .i64 v27 fun n28 => rdK h22 i_2 1 fun v29 => vSlE v29 fun p30 m31 m32 => C f_ad [.int .i64 n28, .int .i64 (↑m31 : Int)] h22 fun v33 h34 => vBoolE v33 fun b35 => bCE (!b35) (Q (.bool false) h34) (rdK h34 i_2 2 fun v36 => vIntE' .i64 v36 fun n37 => ltC n37 0 (Q (.bool false) h34) (rdK h34 i_2 2 fun v38 => vIntE' .i64 v38 fun n39 => gtC n39 1000 (Q (.bool false) h34) (rdK h34 i_2 2 fun v40 => vIntE' .i64 v40 fun n41 => gtC n41 0 (rdK h34 i_2 0 fun v42 => vIntE' .i64 v42 fun n43 => neC n43 10 (Q (.bool false) h34) (rdK h34 i_2 0 fun v44 => vIntE' .i64 v44 fun n45 => C f_aj [.int .i64 n45] h34 fun v46 h47 => vBoolE v46 fun b48 => bCE b48 (eqC n1 8 (Q (.bool false) h47) (rdK h47 i_2 0 fun v49 => vIntE' .i64 v49 fun n50 => C f_aj [.int .i64 n50] h47 fun v51 h52 => vBoolE v51 fun b53 => bCE (!b53) (rdK h52 i_2 3 fun v54 => vSlE v54 fun p55 m56 m57 => gtC (↑m56 : Int) 0 (Q (.bool false) h52) (rdK h52 i_2 3 fun v58 => vSlE v58 fun p59 m60 m61 => C f_ak [.slice p59 m60 m61, .int .i64 (wI64 (addI n1 1))] h52 fun v62 h63 => vBoolE v62 fun b64 => bCE (!b64) (Q (.bool false) h63) (D f_ak 2 10746863618 [.int .i64 n1, .slice p2 m3 m4, .int .i64 n5, .int .i64 (wI64 (addI n6 1))] h63 Q))) (rdK h52 i_2 3 fun v65 => vSlE v65 fun p66 m67 m68 => C f_ak [.slice p66 m67 m68, .int .i64 (wI64 (addI n1 1))] h52 fun v69 h70 => vBoolE v69 fun b71 => bCE (!b71) (Q (.bool false) h70) (D f_ak 2 10746863618 [.int .i64 n1, .slice p2 m3 m4, .int .i64 n5, .int .i64 (wI64 (addI n6 1))] h70 Q)))) (rdK h47 i_2 0 fun v72 => vIntE' .i64 v72 fun n73 => C f_aj [.int .i64 n73] h47 fun v74 h75 => vBoolE v74 fun b76 => bCE (!b76) (rdK h75 i_2 3 fun v77 => vSlE v77 fun p78 m79 m80 => gtC (↑m79 : Int) 0 (Q (.bool false) h75) (rdK h75 i_2 3 fun v81 => vSlE v81 fun p82 m83 m84 => C f_ak [.slice p82 m83 m84, .int .i64 (wI64 (addI n1 1))] h75 fun v85 h86 => vBoolE v85 fun b87 => bCE (!b87) (Q (.bool false) h86) (D f_ak 2 10746863618 [.int .i64 n1, .slice p2 m3 m4, .int .i64 n5, .int .i64 (wI64 (addI n6 1))] h86 Q))) (rdK h75 i_2 3 fun v88 => vSlE v88 fun p89 m90 m91 => C f_ak [.slice p89 m90 m91, .int .i64 (wI64 (addI n1 1))] h75 fun v92 h93 => vBoolE v92 fun b94 => bCE (!b94) (Q (.bool false) h93) (D f_ak 2 10746863618 [.int .i64 n1, .slice p2 m3 m4, .int .i64 n5, .int .i64 (wI64 (addI n6 1))] h93 Q))))) (rdK h34 i_2 0 fun v95 => vIntE' .i64 v95 fun n96 => C f_aj [.int .i64 n96] h34 fun v97 h98 => vBoolE v97 fun b99 => bCE b99 (eqC n1 8 (Q (.bool false) h98) (rdK h98 i_2 0 fun v100 => vIntE' .i64 v100 fun n101 => C f_aj [.int .i64 n101] h98 fun v102 h103 => vBoolE v102 fun b104 => bCE (!b104) (rdK h103 i_2 3 fun v105 => vSlE v105 fun p106 m107 m108 => gtC (↑m107 : Int) 0 (Q (.bool false) h103) (rdK h103 i_2 3 fun v109 => vSlE v109 fun p110 m111 m112 => C f_ak [.slice p110 m111 m112, .int .i64 (wI64 (addI n1 1))] h103 fun v113 h114 => vBoolE v113 fun b115 => bCE (!b115) (Q (.bool false) h114) (D f_ak 2 10746863618 [.int .i64 n1, .slice p2 m3 m4, .int .i64 n5, .int .i64 (wI64 (addI n6 1))] h114 Q))) (rdK h103 i_2 3 fun v116 => vSlE v116 fun p117 m118 m119 => C f_ak [.slice p117 m118 m119, .int .i64 (wI64 (addI n1 1))] h103 fun v120 h121 => vBoolE v120 fun b122 => bCE (!b122) (Q (.bool false) h121) (D f_ak 2 10746863618 [.int .i64 n1, .slice p2 m3 m4, .int .i64 n5, .int .i64 (wI64 (addI n6 1))] h121 Q)))) (rdK h98 i_2 0 fun v123 => vIntE' .i64 v123 fun n124 => C f_aj [.int .i64 n124] h98 fun v125 h126 => vBoolE v125 fun b127 => bCE (!b127) (rdK h126 i_2 3 fun v128 => vSlE v128 fun p129 m130 m131 => gtC (↑m130 : Int) 0 (Q (.bool false) h126) (rdK h126 i_2 3 fun v132 => vSlE v132 fun p133 m134 m135 => C f_ak [.slice p133 m134 m135, .int .i64 (wI64 (addI n1 1))] h126 fun v136 h137 => vBoolE v136 fun b138 => bCE (!b138) (Q (.bool false) h137) (D f_ak 2 10746863618 [.int .i64 n1, .slice p2 m3 m4, .int .i64 n5, .int .i64 (wI64 (addI n6 1))] h137 Q))) (rdK h126 i_2 3 fun v139 => vSlE v139 fun p140 m141 m142 => C f_ak [.slice p140 m141 m142, .int .i64 (wI64 (addI n1 1))] h126 fun v143 h144 => vBoolE v143 fun b145 => bCE (!b145) (Q (.bool false) h144) (D f_ak 2 10746863618 [.int .i64 n1, .slice p2 m3 m4, .int .i64 n5, .int .i64 (wI64 (addI n6 1))] h144 Q)))))))))) (Q (.bool true) h)
  | _ => False
theorem k_al : KE P d_al f_ak 3 10746863618 := by
  intro C D hC hD a h Q H
  unfold d_al at H
  split at H
  · show unitAt P f_ak 2 (decL 10746863618) _ h Q
    rw [show decL 10746863618 = [1, 7, 8, 9] from by decide]
    refine r_al ?_
    simp only [wI64_eq, addI_eq] at H
    revert H
    repeat' with_reducible first
 | refine qac ?_
 | refine qad ?_
 | refine qaf hC fun _ _ => ?_
 | refine qag hD (by decide)
 | refine qah (by with_unfolding_all rfl) (by with_unfolding_all rfl) ?_
 | refine qai ?_
 | refine qam fun _ => ?_
 | refine qao fun _ => ?_
 | refine qaq fun _ => ?_
 | refine qas fun _ => ?_
 | refine qat ?_ ?_
 | refine qav ?_ ?_
 | refine qax ?_ ?_
 | refine qay ?_ ?_
 | refine qbb fun _ _ _ => ?_
 | refine qbc fun _ => ?_
 | refine qbh fun _ _ => ?_
 | refine qbo ?_
 | refine qbp ?_
 | refine qbq ?_ ?_
 | exact id
  · exact H.elim
noncomputable def e_al : Ent P := ⟨f_ak, 3, 10746863618, d_al, k_al⟩
noncomputable def d_e5 : BodyT := fun C D a h Q => match a with
  | [.slice p1 m2 m3] => fN m2 fun m2 => fN m3 fun m3 => bCE (Option.isNone p1) (Q (.slice none 0 0) h) (addKL h [] .nil 0 fun h_1 => nxK h fun i_2 => apK ty_api_Word 5 40 h_1 (.slice (some ⟨i_2, 0, none⟩) 0 0) (.slice p1 m2 m3) fun v4 h5 => vSlE v4 fun p6 m7 m8 => Q (.slice p6 m7 m8) h5)
  | _ => False
theorem k_e5 : KE P d_e5 f_e5 0 0 := by
  intro C D hC hD a h Q H
  unfold d_e5 at H
  split at H
  · show EvQ P f_e5 _ h Q
    refine r_e5 ?_
    revert H
    repeat' with_reducible first
 | refine qbr ti_ty_sl_api_Word rfl ti_ty_api_Word rfl rfl rfl ti_ty_sl_api_Word rfl fun _ _ => ?_
 | refine qad ?_
 | refine qah (by with_unfolding_all rfl) (by with_unfolding_all rfl) ?_
 | refine qai ?_
 | refine qbb fun _ _ _ => ?_
 | refine qbo ?_
 | refine qbp ?_
 | refine qbq ?_ ?_
 | exact id
  · exact H.elim
noncomputable def e_e5 : Ent P := ⟨f_e5, 0, 0, d_e5, k_e5⟩
noncomputable def d_fm : BodyT := fun C D a h Q => match a with
  | [.string s1, .string s2, .int .i64 n3, .int .i64 n4] => fI n3 fun n3 => fI n4 fun n4 => eqC n4 0 (Q (.slice none 0 0) h) (bEqC s2 (ByteArray.mk #[]) (C f_fl [.string s1, .int .i64 n4] h fun v5 h6 => vSlE v5 fun p7 m8 m9 => Q (.slice p7 m8 m9) h6) (ltC n4 0 (C f_f3 [.string s1, .string s2] h fun v10 h11 => vIntE' .i64 v10 fun n12 => D f_fm 7 4298115073 [.string s1, .string s2, .int .i64 n3, .int .i64 (wI64 (addI n12 1))] h11 Q) (D f_fm 7 4298115073 [.string s1, .string s2, .int .i64 n3, .int .i64 n4] h Q)))
  | _ => False
theorem k_fm : KE P d_fm f_fm 0 0 := by
  intro C D hC hD a h Q H
  unfold d_fm at H
  split at H
  · show EvQ P f_fm _ h Q
    refine r_fm ?_
    simp only [wI64_eq, addI_eq] at H
    revert H
    repeat' with_reducible first
 | refine qac ?_
 | refine qaf hC fun _ _ => ?_
 | refine qag hD (by decide)
 | refine qas fun _ => ?_
 | refine qat ?_ ?_
 | refine qax ?_ ?_
 | refine qaz ?_ ?_
 | refine qbb fun _ _ _ => ?_
 | exact id
  · exact H.elim
noncomputable def e_fm : Ent P := ⟨f_fm, 0, 0, d_fm, k_fm⟩
noncomputable def d_fp : BodyT := fun C D a h Q => match a with
  | [.string s1, .string s2, .int .i64 n3, .int .i64 n4] => fI n3 fun n3 => fI n4 fun n4 => oPK (makeSliceV P h ty_sl_string (.int .i64 (if IntKind.wrap .i64 ((↑(szE s1) : Int) + 1) < n4 then IntKind.wrap .i64 ((↑(szE s1) : Int) + 1) else n4)) (.int .i64 (if IntKind.wrap .i64 ((↑(szE s1) : Int) + 1) < n4 then IntKind.wrap .i64 ((↑(szE s1) : Int) + 1) else n4))) fun v5 h6 => vSlE v5 fun p7 m8 m9 => D f_fm 11 12395898389661697 [.string s1, .string s2, .int .i64 n3, .int .i64 (wI64 (subI (if IntKind.wrap .i64 ((↑(szE s1) : Int) + 1) < n4 then IntKind.wrap .i64 ((↑(szE s1) : Int) + 1) else n4) 1)), .slice p7 m8 m9, .int .i64 0] h6 Q
  | _ => False
theorem k_fp : KE P d_fp f_fm 8 4298115073 := by
  intro C D hC hD a h Q H
  unfold d_fp at H
  split at H
  · show unitAt P f_fm 7 (decL 4298115073) _ h Q
    rw [show decL 4298115073 = [0, 1, 2, 3] from by decide]
    refine r_fp ?_
    simp only [wI64_eq, subI_eq, szE_eq] at H
    revert H
    repeat' with_reducible first
 | refine qac ?_
 | refine qag hD (by decide)
 | refine qbb fun _ _ _ => ?_
 | refine qbg fun _ _ => ?_
 | exact id
  · exact H.elim
noncomputable def e_fp : Ent P := ⟨f_fm, 8, 4298115073, d_fp, k_fp⟩
noncomputable def d_fn : BodyT := fun C D a h Q => match a with
  | [.string s1, .string s2, .int .i64 n3, .int .i64 n4, .slice p5 m6 m7, .int .i64 n8] => fI n3 fun n3 => fI n4 fun n4 => fN m6 fun m6 => fN m7 fun m7 => fI n8 fun n8 => ltC n8 n4 (C f_f8 [.string s1, .string s2] h fun v9 h10 => vIntE' .i64 v9 fun n11 => ltC n11 0 (D f_fm 17 11544577 [.string s1, .slice p5 m6 m7, .int .i64 n8] h10 Q) (nBnd (wI64 (addI n11 n3)) (szE s1) fun m12 => aPE p5 fun m13 m14 => nIdx n8 m6 fun m15 => subK s1 0 m12 fun s_1 => wrK h10 m13 (m14 + m15 * 1) (.string s_1) fun h16 => nBnd (wI64 (addI n11 (↑(szE s2) : Int))) (szE s1) fun m17 => subK s1 m17 (szE s1) fun s_2 => D f_fm 11 12395898389661697 [.string s_2, .string s2, .int .i64 n3, .int .i64 n4, .slice p5 m6 m7, .int .i64 (wI64 (addI n8 1))] h16 Q)) (D f_fm 17 11544577 [.string s1, .slice p5 m6 m7, .int .i64 n8] h Q)
  | _ => False
theorem k_fn : KE P d_fn f_fm 12 12395898389661697 := by
  intro C D hC hD a h Q H
  unfold d_fn at H
  split at H
  · show unitAt P f_fm 11 (decL 12395898389661697) _ h Q
    rw [show decL 12395898389661697 = [0, 1, 2, 3, 9, 10] from by decide]
    refine r_fn ?_
    simp only [wI64_eq, addI_eq, szE_eq] at H
    revert H
    repeat' with_reducible first
 | refine qac ?_
 | refine qad ?_
 | refine qaf hC fun _ _ => ?_
 | refine qag hD (by decide)
 | refine qaj ?_
 | refine qan fun _ => ?_
 | refine qaq fun _ => ?_
 | refine qar fun _ => ?_
 | refine qas fun _ => ?_
 | refine qat ?_ ?_
 | refine qbh fun _ _ => ?_
 | exact id
  · exact H.elim
noncomputable def e_fn : Ent P := ⟨f_fm, 12, 12395898389661697, d_fn, k_fn⟩
noncomputable def d_fo : BodyT := fun C D a h Q => match a with
  | [.string s1, .slice p2 m3 m4, .int .i64 n5] => fN m3 fun m3 => fN m4 fun m4 => fI n5 fun n5 => aPE p2 fun m6 m7 => nIdx n5 m3 fun m8 => wrK h m6 (m7 + m8 * 1) (.string s1) fun h9 => nBnd (wI64 (addI n5 1)) m4 fun m10 => bCE (Nat.ble m10 m4) (oQ (shO p2 0) fun p11 => Q (.slice p11 (m10 - 0) (m4 - 0)) h9) (False)
  | _ => False
theorem k_fo : KE P d_fo f_fm 18 11544577 := by
  intro C D hC hD a h Q H
  unfold d_fo at H
  split at H
  · show unitAt P f_fm 17 (decL 11544577) _ h Q
    rw [show decL 11544577 = [0, 9, 10] from by decide]
    refine r_fo ?_
    simp only [wI64_eq, addI_eq] at H
    revert H
    repeat' with_reducible first
 | refine qac ?_
 | refine qad ?_
 | refine qan fun _ => ?_
 | refine qaq fun _ => ?_
 | refine qar fun _ => ?_
 | refine qbh fun _ _ => ?_
 | refine qbn fun _ => ?_
 | refine qbo ?_
 | refine qbp ?_
 | refine qbq ?_ ?_
 | exact id
  · exact H.elim
noncomputable def e_fo : Ent P := ⟨f_fm, 18, 11544577, d_fo, k_fo⟩
noncomputable def d_e4 : BodyT := fun C D a h Q => match a with
  | [.slice p1 m2 m3] => fN m2 fun m2 => fN m3 fun m3 => bCE (Option.isNone p1) (Q (.slice none 0 0) h) (addKL h [] .nil 0 fun h_1 => nxK h fun i_2 => apK ty_api_Stmt 4 64 h_1 (.slice (some ⟨i_2, 0, none⟩) 0 0) (.slice p1 m2 m3) fun v4 h5 => vSlE v4 fun p6 m7 m8 => Q (.slice p6 m7 m8) h5)
  | _ => False
theorem k_e4 : KE P d_e4 f_e4 0 0 := by
  intro C D hC hD a h Q H
  unfold d_e4 at H
  split at H
  · show EvQ P f_e4 _ h Q
    refine r_e4 ?_
    revert H
    repeat' with_reducible first
 | refine qbr ti_ty_sl_api_Stmt rfl ti_ty_api_Stmt rfl rfl rfl ti_ty_sl_api_Stmt rfl fun _ _ => ?_
 | refine qad ?_
 | refine qah (by with_unfolding_all rfl) (by with_unfolding_all rfl) ?_
 | refine qai ?_
 | refine qbb fun _ _ _ => ?_
 | refine qbo ?_
 | refine qbp ?_
 | refine qbq ?_ ?_
 | exact id
  · exact H.elim
noncomputable def e_e4 : Ent P := ⟨f_e4, 0, 0, d_e4, k_e4⟩
noncomputable def d_ft : BodyT := fun C D a h Q => match a with
  | [.string s1, .string s2] => geC (↑(szE s1) : Int) (↑(szE s2) : Int) (nBnd (↑(szE s2) : Int) (szE s1) fun m3 => subK s1 0 m3 fun s_1 => Q (.bool (bEq s_1 s2)) h) (Q (.bool false) h)
  | _ => False
theorem k_ft : KE P d_ft f_ft 0 0 := by
  intro C D hC hD a h Q H
  unfold d_ft at H
  split at H
  · show EvQ P f_ft _ h Q
    refine r_ft ?_
    simp only [szE_eq] at H
    revert H
    repeat' with_reducible first
 | refine qaj ?_
 | refine qar fun _ => ?_
 | refine qaw ?_ ?_
 | exact id
  · exact H.elim
noncomputable def e_ft : Ent P := ⟨f_ft, 0, 0, d_ft, k_ft⟩
noncomputable def d_b0 : BodyT := fun C D a h Q => match a with
  | [.string s1] => addKL h [.int .i64 0, .string (ByteArray.mk #[]), .int .i64 0, .int .i64 0] (.node (.node (.node .nil (some (.int .i64 0)) .nil) (some (.string (ByteArray.mk #[]))) .nil) (some (.int .i64 0)) (.node .nil (some (.int .i64 0)) .nil)) 4 fun h_1 => nxK h_1 fun i_2 => addKL h_1 [.string (ByteArray.mk #[114]), .string s1, .string (ByteArray.mk #[120]), .string (ByteArray.mk #[])] (.node (.node (.node .nil (some (.string (ByteArray.mk #[]))) .nil) (some (.string s1)) .nil) (some (.string (ByteArray.mk #[114]))) (.node .nil (some (.string (ByteArray.mk #[120]))) .nil)) 4 fun h_3 => C f_b4 [.slice (some ⟨i_2, 0, none⟩) 2 2] h_3 fun v2 h3 => C f_bn [v2, .string (ByteArray.mk #[114])] h3 fun v4 h5 => vTupE v4 fun l6 => lCE l6 fun v7 l8 => vPtrE v7 fun p9 => lCE l8 fun v10 l11 => vAggE v10 fun l12 => lCE l12 fun v13 l14 => vIntE' .i64 v13 fun n15 => lCE l14 fun v16 l17 => vStrE v16 fun s18 => lCE l17 fun v19 l20 => vIntE' .i64 v19 fun n21 => lCE l20 fun v22 l23 => vIntE' .i64 v22 fun n24 => lNE l23 (lNE l11 (addKL h5 [.int .i64 0, .string (ByteArray.mk #[]), .int .i64 0, .int .i64 0] (.node (.node (.node .nil (some (.int .i64 0)) .nil) (some (.string (ByteArray.mk #[]))) .nil) (some (.int .i64 0)) (.node .nil (some (.int .i64 0)) .nil)) 4 fun h_4 => nxK h5 fun i_5 => wrLK i_5 [.int .i64 n15, .string s18, .int .i64 n21, .int .i64 n24] h_4 0 fun h25 => rdK h25 i_5 0 fun v26 => vIntE' .i64 v26 fun n27 => rdK h25 i_5 1 fun v28 => vStrE v28 fun s29 => rdK h25 i_5 2 fun v30 => vIntE' .i64 v30 fun n31 => rdK h25 i_5 3 fun v32 => vIntE' .i64 v32 fun n33 => nxK h fun i_6 => wrLK i_6 [.int .i64 n27, .string s29, .int .i64 n31, .int .i64 n33] h25 0 fun h34 => rdK h34 i_6 0 fun v35 => vIntE' .i64 v35 fun n36 => rdK h34 i_6 1 fun v37 => vStrE v37 fun s38 => rdK h34 i_6 2 fun v39 => vIntE' .i64 v39 fun n40 => rdK h34 i_6 3 fun v41 => vIntE' .i64 v41 fun n42 => Q (.agg (Array.mk [.int .i64 n36, .string s38, .int .i64 n40, .int .i64 n42])) h34))
  | _ => False
theorem k_b0 : KO P d_b0 f_b0 := by
  intro C D hC hD a h Q H
  unfold d_b0 at H
  split at H
  · show RunOwn P f_b0 _ h Q
    refine r_b0 ?_
    revert H
    repeat' with_reducible first
 | refine qaf hC fun _ _ => ?_
 | refine qah (by with_unfolding_all rfl) (by with_unfolding_all rfl) ?_
 | refine qai ?_
 | refine qam fun _ => ?_
 | refine qao fun _ => ?_
 | refine qas fun _ => ?_
 | refine qba fun _ => ?_
 | refine qbd fun _ _ => ?_
 | refine qbe ?_
 | refine qbf fun _ => ?_
 | refine qbi fun _ => ?_
 | refine qbk fun _ => ?_
 | exact id
  · exact H.elim
noncomputable def e_b0 : Ent P := ⟨f_b0, 0, 0, dOwn 8 d_b0, fun _ _ hC hD => own_ent (by kernel_rfl) (k_b0 _ _ hC hD)⟩
noncomputable def d_ab : BodyT := fun C D a h Q => match a with
  | [.slice p1 m2 m3] => fN m2 fun m2 => fN m3 fun m3 => D f_ab 3 11821655044 [.int .i64 (↑m2 : Int), .slice p1 m2 m3, .int .i64 (↑m2 : Int), .int .i64 0] h Q
  | _ => False
theorem k_ab : KE P d_ab f_ab 0 0 := by
  intro C D hC hD a h Q H
  unfold d_ab at H
  split at H
  · show EvQ P f_ab _ h Q
    refine r_ab ?_
    revert H
    repeat' with_reducible first
 | refine qad ?_
 | refine qag hD (by decide)
 | exact id
  · exact H.elim
noncomputable def e_ab : Ent P := ⟨f_ab, 0, 0, d_ab, k_ab⟩
noncomputable def d_ac : BodyT := fun C D a h Q => match a with
  | [.int .i64 n1, .slice p2 m3 m4, .int .i64 n5, .int .i64 n6] => fI n1 fun n1 => fN m3 fun m3 => fN m4 fun m4 => fI n5 fun n5 => fI n6 fun n6 => ltC n6 n5 (aPE p2 fun m7 m8 => nIdx n6 m3 fun m9 => rdK h m7 (m8 + m9 * 4) fun v10 => vIntE' .i64 v10 fun n11 => rdK h m7 (m8 + m9 * 4 + 1) fun v12 => vSlE v12 fun p13 m14 m15 => rdK h m7 (m8 + m9 * 4 + 1 + 1) fun v16 => vIntE' .i64 v16 fun n17 => rdK h m7 (m8 + m9 * 4 + 1 + 1 + 1) fun v18 => vSlE v18 fun p19 m20 m21 => addKL h [.int .i64 0, .slice none 0 0, .int .i64 0, .slice none 0 0] (.node (.node (.node .nil (some (.slice none 0 0)) .nil) (some (.slice none 0 0)) .nil) (some (.int .i64 0)) (.node .nil (some (.int .i64 0)) .nil)) 4 fun h_1 => nxK h fun i_2 => wrLK i_2 [.int .i64 n11, .slice p13 m14 m15, .int .i64 n17, .slice p19 m20 m21] h_1 0 fun h22 => rdK h22 i_2 3 fun v23 => vSlE v23 fun p24 m25 m26 => C f_ab [.slice p24 m25 m26] h22 fun v27 h28 => vIntE' .i64 v27 fun n29 => D f_ab 3 11821655044 [.int .i64 (wI64 (addI n1 n29)), .slice p2 m3 m4, .int .i64 n5, .int .i64 (wI64 (addI n6 1))] h28 Q) (Q (.int .i64 n1) h)
  | _ => False
theorem k_ac : KE P d_ac f_ab 4 11821655044 := by
  intro C D hC hD a h Q H
  unfold d_ac at H
  split at H
  · show unitAt P f_ab 3 (decL 11821655044) _ h Q
    rw [show decL 11821655044 = [3, 8, 9, 10] from by decide]
    refine r_ac ?_
    simp only [wI64_eq, addI_eq] at H
    revert H
    repeat' with_reducible first
 | refine qac ?_
 | refine qad ?_
 | refine qaf hC fun _ _ => ?_
 | refine qag hD (by decide)
 | refine qah (by with_unfolding_all rfl) (by with_unfolding_all rfl) ?_
 | refine qai ?_
 | refine qam fun _ => ?_
 | refine qao fun _ => ?_
 | refine qaq fun _ => ?_
 | refine qas fun _ => ?_
 | refine qat ?_ ?_
 | refine qbb fun _ _ _ => ?_
 | refine qbh fun _ _ => ?_
 | exact id
  · exact H.elim
noncomputable def e_ac : Ent P := ⟨f_ab, 4, 11821655044, d_ac, k_ac⟩
end
end Go.Proofs.YtamoepfiodgbbaaGreatDoor.E
end
