/- A deterministic heap for the model, proved sound, and walks of the program over it: part 13. No condition. -/
import Derived.Test.YtamoepfiodgbbaaGreatDoorCa7
set_option linter.unusedVariables false
set_option linter.unusedSimpArgs false
set_option linter.unusedSectionVars false
section
/- Bodies that the kernel can run, printed by a program of ours. -/
namespace Go.Proofs.YtamoepfiodgbbaaGreatDoor.E
open Go.Abs
set_option maxRecDepth 100000
set_option maxHeartbeats 4000000
section
noncomputable def d_ea : BodyT := fun C D a h Q => match a with
  | [.slice p1 m2 m3, .string s4] => fN m2 fun m2 => fN m3 fun m3 => D f_ea 2 9672067073 [.slice p1 m2 m3, .string s4, .int .i64 (↑m2 : Int), .int .i64 0] h Q
  | _ => False
theorem k_ea : KE P d_ea f_ea 0 0 := by
  intro C D hC hD a h Q H
  unfold d_ea at H
  split at H
  · show EvQ P f_ea _ h Q
    refine r_ea ?_
    revert H
    repeat' with_reducible first
 | refine qad ?_
 | refine qag hD (by decide)
 | exact id
  · exact H.elim
noncomputable def e_ea : Ent P := ⟨f_ea, 0, 0, d_ea, k_ea⟩
noncomputable def d_eb : BodyT := fun C D a h Q => match a with
  | [.slice p1 m2 m3, .string s4, .int .i64 n5, .int .i64 n6] => fN m2 fun m2 => fN m3 fun m3 => fI n5 fun n5 => fI n6 fun n6 => ltC n6 n5 (aPE p1 fun m7 m8 => nIdx n6 m2 fun m9 => rdK h m7 (m8 + m9 * 1) fun v10 => vStrE v10 fun s11 => bEqC s4 s11 (Q (.int .i64 n6) h) (D f_ea 2 9672067073 [.slice p1 m2 m3, .string s4, .int .i64 n5, .int .i64 (wI64 (addI n6 1))] h Q)) (Q (.int .i64 (Int.negSucc 0)) h)
  | _ => False
theorem k_eb : KE P d_eb f_ea 3 9672067073 := by
  intro C D hC hD a h Q H
  unfold d_eb at H
  split at H
  · show unitAt P f_ea 2 (decL 9672067073) _ h Q
    rw [show decL 9672067073 = [0, 1, 7, 8] from by decide]
    refine r_eb ?_
    simp only [wI64_eq, addI_eq] at H
    revert H
    repeat' with_reducible first
 | refine qac ?_
 | refine qad ?_
 | refine qag hD (by decide)
 | refine qam fun _ => ?_
 | refine qaq fun _ => ?_
 | refine qat ?_ ?_
 | refine qaz ?_ ?_
 | refine qba fun _ => ?_
 | refine qbh fun _ _ => ?_
 | exact id
  · exact H.elim
noncomputable def e_eb : Ent P := ⟨f_ea, 3, 9672067073, d_eb, k_eb⟩
noncomputable def d_a4 : BodyT := fun C D a h Q => match a with
  | [.pointer (some ⟨m1, m2, none⟩), .pointer (some ⟨m3, m4, none⟩)] => fN m1 fun m1 => fN m2 fun m2 => fN m3 fun m3 => fN m4 fun m4 => rdK h m1 m2 fun v5 => vIntE' .i64 v5 fun n6 => rdK h m3 m4 fun v7 => vSlE v7 fun p8 m9 m10 => eqC n6 (↑m9 : Int) (Q (.tuple (Array.mk [.slice none 0 0, .bool false])) h) (rdK h m1 m2 fun v11 => vIntE' .i64 v11 fun n12 => wrK h m1 m2 (.int .i64 (wI64 (addI n12 1))) fun h13 => rdK h13 m3 m4 fun v14 => vSlE v14 fun p15 m16 m17 => rdK h13 m1 m2 fun v18 => vIntE' .i64 v18 fun n19 => aPE p15 fun m20 m21 => nIdx (wI64 (subI n19 1)) m16 fun m22 => rdK h13 m20 (m21 + m22 * 1) fun v23 => vSlE v23 fun p24 m25 m26 => Q (.tuple (Array.mk [.slice p24 m25 m26, .bool true])) h13)
  | _ => False
theorem k_a4 : KE P d_a4 f_a4 0 0 := by
  intro C D hC hD a h Q H
  unfold d_a4 at H
  split at H
  · show EvQ P f_a4 _ h Q
    refine r_a4 ?_
    simp only [wI64_eq, addI_eq, subI_eq] at H
    revert H
    repeat' with_reducible first
 | refine qad ?_
 | refine qam fun _ => ?_
 | refine qan fun _ => ?_
 | refine qaq fun _ => ?_
 | refine qas fun _ => ?_
 | refine qax ?_ ?_
 | refine qbb fun _ _ _ => ?_
 | refine qbh fun _ _ => ?_
 | exact id
  · exact H.elim
noncomputable def e_a4 : Ent P := ⟨f_a4, 0, 0, d_a4, k_a4⟩
noncomputable def d_fg : BodyT := fun C D a h Q => match a with
  | [.string s1, .string s2, .string s3, .int .i64 n4] => fI n4 fun n4 => bEqC s2 s3 (Q (.string s1) h) (eqC n4 0 (Q (.string s1) h) (C f_f3 [.string s1, .string s2] h fun v5 h6 => vIntE' .i64 v5 fun n7 => eqC n7 0 (Q (.string s1) h6) (ltC n4 0 (D f_fg 8 4298115073 [.string s1, .string s2, .string s3, .int .i64 n7] h6 Q) (ltC n7 n4 (D f_fg 8 4298115073 [.string s1, .string s2, .string s3, .int .i64 n7] h6 Q) (D f_fg 8 4298115073 [.string s1, .string s2, .string s3, .int .i64 n4] h6 Q)))))
  | _ => False
theorem k_fg : KE P d_fg f_fg 0 0 := by
  intro C D hC hD a h Q H
  unfold d_fg at H
  split at H
  · show EvQ P f_fg _ h Q
    refine r_fg ?_
    revert H
    repeat' with_reducible first
 | refine qac ?_
 | refine qaf hC fun _ _ => ?_
 | refine qag hD (by decide)
 | refine qas fun _ => ?_
 | refine qat ?_ ?_
 | refine qax ?_ ?_
 | refine qaz ?_ ?_
 | exact id
  · exact H.elim
noncomputable def e_fg : Ent P := ⟨f_fg, 0, 0, d_fg, k_fg⟩
noncomputable def d_fj : BodyT := fun C D a h Q => match a with
  | [.string s1, .string s2, .string s3, .int .i64 n4] => fI n4 fun n4 => nxK h fun i_1 => addKL h [.pointer none, .slice none 0 0] (.node (.node .nil (some (.slice none 0 0)) .nil) (some (.pointer none)) .nil) 2 fun h_2 => tagK h_2 i_1 ty_strings_Builder fun h_3 => C f_db [.pointer (some ⟨i_1, 0, none⟩), .int .i64 (wI64 (addI (↑(szE s1) : Int) (wI64 (n4 * IntKind.wrap .i64 ((↑(szE s3) : Int) - (↑(szE s2) : Int))))))] h_3 fun v5 h6 => gtC (↑(szE s2) : Int) 0 (D f_fg 13 62317447149786236929 [.string s1, .string s2, .string s3, .pointer (some ⟨i_1, 0, none⟩), .int .i64 0, .int .i64 n4, .int .i64 0] h6 Q) (C f_dh [.pointer (some ⟨i_1, 0, none⟩), .string s3] h6 fun v7 h8 => vTupE v7 fun l9 => lCE l9 fun v10 l11 => vIntE' .i64 v10 fun n12 => lCE l11 fun v13 l14 => vIfcE v13 (lNE l14 (D f_fg 21 89031867443973121 [.string s1, .string s3, .pointer (some ⟨i_1, 0, none⟩), .int .i64 0, .int .i64 (wI64 (subI n4 1)), .int .i64 0] h8 Q)) fun m15 v16 => lNE l14 (D f_fg 21 89031867443973121 [.string s1, .string s3, .pointer (some ⟨i_1, 0, none⟩), .int .i64 0, .int .i64 (wI64 (subI n4 1)), .int .i64 0] h8 Q))
  | _ => False
theorem k_fj : KE P d_fj f_fg 9 4298115073 := by
  intro C D hC hD a h Q H
  unfold d_fj at H
  split at H
  · show unitAt P f_fg 8 (decL 4298115073) _ h Q
    rw [show decL 4298115073 = [0, 1, 2, 3] from by decide]
    refine r_fj ?_
    simp only [wI64_eq, addI_eq, subI_eq, szE_eq] at H
    revert H
    repeat' with_reducible first
 | refine qac ?_
 | refine qaf hC fun _ _ => ?_
 | refine qag hD (by decide)
 | refine qah (by with_unfolding_all rfl) (by with_unfolding_all rfl) ?_
 | refine qai ?_
 | refine qal ?_
 | refine qas fun _ => ?_
 | refine qav ?_ ?_
 | refine qbd fun _ _ => ?_
 | refine qbe ?_
 | refine qbf fun _ => ?_
 | refine qbj ?_ fun _ _ => ?_
 | exact id
  · exact H.elim
noncomputable def e_fj : Ent P := ⟨f_fg, 9, 4298115073, d_fj, k_fj⟩
noncomputable def d_fi : BodyT := fun C D a h Q => match a with
  | [.string s1, .string s2, .string s3, .pointer (some ⟨m4, 0, none⟩), .int .i64 n5, .int .i64 n6, .int .i64 n7] => fN m4 fun m4 => fI n5 fun n5 => fI n6 fun n6 => fI n7 fun n7 => ltC n7 n6 (nBnd n5 (szE s1) fun m8 => subK s1 m8 (szE s1) fun s_1 => C f_f8 [.string s_1, .string s2] h fun v9 h10 => vIntE' .i64 v9 fun n11 => nBnd (wI64 (addI n5 n11)) (szE s1) fun m12 => nBnd n5 m12 fun m13 => subK s1 m13 m12 fun s_2 => C f_dh [.pointer (some ⟨m4, 0, none⟩), .string s_2] h10 fun v14 h15 => vTupE v14 fun l16 => lCE l16 fun v17 l18 => vIntE' .i64 v17 fun n19 => lCE l18 fun v20 l21 => vIfcE v20 (lNE l21 (C f_dh [.pointer (some ⟨m4, 0, none⟩), .string s3] h15 fun v22 h23 => vTupE v22 fun l24 => lCE l24 fun v25 l26 => vIntE' .i64 v25 fun n27 => lCE l26 fun v28 l29 => vIfcE v28 (lNE l29 (D f_fg 13 62317447149786236929 [.string s1, .string s2, .string s3, .pointer (some ⟨m4, 0, none⟩), .int .i64 (wI64 (addI (wI64 (addI n5 n11)) (↑(szE s2) : Int))), .int .i64 n6, .int .i64 (wI64 (addI n7 1))] h23 Q)) fun m30 v31 => lNE l29 (D f_fg 13 62317447149786236929 [.string s1, .string s2, .string s3, .pointer (some ⟨m4, 0, none⟩), .int .i64 (wI64 (addI (wI64 (addI n5 n11)) (↑(szE s2) : Int))), .int .i64 n6, .int .i64 (wI64 (addI n7 1))] h23 Q))) fun m32 v33 => lNE l21 (C f_dh [.pointer (some ⟨m4, 0, none⟩), .string s3] h15 fun v34 h35 => vTupE v34 fun l36 => lCE l36 fun v37 l38 => vIntE' .i64 v37 fun n39 => lCE l38 fun v40 l41 => vIfcE v40 (lNE l41 (D f_fg 13 62317447149786236929 [.string s1, .string s2, .string s3, .pointer (some ⟨m4, 0, none⟩), .int .i64 (wI64 (addI (wI64 (addI n5 n11)) (↑(szE s2) : Int))), .int .i64 n6, .int .i64 (wI64 (addI n7 1))] h35 Q)) fun m42 v43 => lNE l41 (D f_fg 13 62317447149786236929 [.string s1, .string s2, .string s3, .pointer (some ⟨m4, 0, none⟩), .int .i64 (wI64 (addI (wI64 (addI n5 n11)) (↑(szE s2) : Int))), .int .i64 n6, .int .i64 (wI64 (addI n7 1))] h35 Q))) (nBnd n5 (szE s1) fun m44 => subK s1 m44 (szE s1) fun s_3 => C f_dh [.pointer (some ⟨m4, 0, none⟩), .string s_3] h fun v45 h46 => vTupE v45 fun l47 => lCE l47 fun v48 l49 => vIntE' .i64 v48 fun n50 => lCE l49 fun v51 l52 => vIfcE v51 (lNE l52 (C f_df [.pointer (some ⟨m4, 0, none⟩)] h46 fun v53 h54 => vStrE v53 fun s55 => Q (.string s55) h54)) fun m56 v57 => lNE l52 (C f_df [.pointer (some ⟨m4, 0, none⟩)] h46 fun v58 h59 => vStrE v58 fun s60 => Q (.string s60) h59))
  | _ => False
theorem k_fi : KE P d_fi f_fg 14 62317447149786236929 := by
  intro C D hC hD a h Q H
  unfold d_fi at H
  split at H
  · show unitAt P f_fg 13 (decL 62317447149786236929) _ h Q
    rw [show decL 62317447149786236929 = [0, 1, 2, 10, 11, 52, 53] from by decide]
    refine r_fi ?_
    simp only [wI64_eq, addI_eq, szE_eq] at H
    revert H
    repeat' with_reducible first
 | refine qac ?_
 | refine qad ?_
 | refine qaf hC fun _ _ => ?_
 | refine qag hD (by decide)
 | refine qaj ?_
 | refine qar fun _ => ?_
 | refine qas fun _ => ?_
 | refine qat ?_ ?_
 | refine qba fun _ => ?_
 | refine qbd fun _ _ => ?_
 | refine qbe ?_
 | refine qbf fun _ => ?_
 | refine qbj ?_ fun _ _ => ?_
 | exact id
  · exact H.elim
noncomputable def e_fi : Ent P := ⟨f_fg, 14, 62317447149786236929, d_fi, k_fi⟩
noncomputable def d_dl : BodyT := fun C D a h Q => match a with
  | [.string s1] => gtC (↑(szE s1) : Int) 60 (Q (.bool false) h) (D f_dl 3 1 [.string s1] h Q)
  | _ => False
theorem k_dl : KE P d_dl f_dl 0 0 := by
  intro C D hC hD a h Q H
  unfold d_dl at H
  split at H
  · show EvQ P f_dl _ h Q
    refine r_dl ?_
    simp only [szE_eq] at H
    revert H
    repeat' with_reducible first
 | refine qag hD (by decide)
 | refine qav ?_ ?_
 | exact id
  · exact H.elim
noncomputable def e_dl : Ent P := ⟨f_dl, 0, 0, d_dl, k_dl⟩
noncomputable def d_dm : BodyT := fun C D a h Q => match a with
  | [.string s1] => C f_f4 [.string s1, .string (ByteArray.mk #[47])] h fun v2 h3 => vTupE v2 fun l4 => lCE l4 fun v5 l6 => vStrE v5 fun s7 => lCE l6 fun v8 l9 => vStrE v8 fun s10 => lCE l9 fun v11 l12 => vBoolE v11 fun b13 => lNE l12 (C f_dt [.string s7] h3 fun v14 h15 => vBoolE v14 fun b16 => bCE (!b16) (Q (.bool false) h15) (bCE (!b13) (Q (.bool true) h15) (D f_dl 3 1 [.string s10] h15 Q)))
  | _ => False
theorem k_dm : KE P d_dm f_dl 4 1 := by
  intro C D hC hD a h Q H
  unfold d_dm at H
  split at H
  · show unitAt P f_dl 3 (decL 1) _ h Q
    rw [show decL 1 = [0] from by decide]
    refine r_dm ?_
    revert H
    repeat' with_reducible first
 | refine qaf hC fun _ _ => ?_
 | refine qag hD (by decide)
 | refine qba fun _ => ?_
 | refine qbc fun _ => ?_
 | refine qbd fun _ _ => ?_
 | refine qbe ?_
 | refine qbf fun _ => ?_
 | refine qbo ?_
 | refine qbp ?_
 | refine qbq ?_ ?_
 | exact id
  · exact H.elim
noncomputable def e_dm : Ent P := ⟨f_dl, 4, 1, d_dm, k_dm⟩
noncomputable def d_cp : BodyT := fun C D a h Q => match a with
  | [.pointer p1, .slice p2 m3 m4] => fN m3 fun m3 => fN m4 fun m4 => D f_cp 3 15407134022657 [.pointer p1, .slice none 0 0, .slice p2 m3 m4, .int .i64 (↑m3 : Int), .int .i64 0] h Q
  | _ => False
theorem k_cp : KE P d_cp f_cp 0 0 := by
  intro C D hC hD a h Q H
  unfold d_cp at H
  split at H
  · show EvQ P f_cp _ h Q
    refine r_cp ?_
    revert H
    repeat' with_reducible first
 | refine qad ?_
 | refine qag hD (by decide)
 | exact id
  · exact H.elim
noncomputable def e_cp : Ent P := ⟨f_cp, 0, 0, d_cp, k_cp⟩
noncomputable def d_cq : BodyT := fun C D a h Q => match a with
  | [.pointer p1, .slice p2 m3 m4, .slice p5 m6 m7, .int .i64 n8, .int .i64 n9] => fN m3 fun m3 => fN m4 fun m4 => fN m6 fun m6 => fN m7 fun m7 => fI n8 fun n8 => fI n9 fun n9 => ltC n9 n8 (aPE p5 fun m10 m11 => nIdx n9 m6 fun m12 => rdK h m10 (m11 + m12 * 5) fun v13 => vStrE v13 fun s14 => rdK h m10 (m11 + m12 * 5 + 1) fun v15 => vIntE' .i64 v15 fun n16 => rdK h m10 (m11 + m12 * 5 + 1 + 1) fun v17 => vIntE' .i64 v17 fun n18 => rdK h m10 (m11 + m12 * 5 + 1 + 1 + 1) fun v19 => vBoolE v19 fun b20 => rdK h m10 (m11 + m12 * 5 + 1 + 1 + 1 + 1) fun v21 => vBoolE v21 fun b22 => addKL h [.string (ByteArray.mk #[]), .int .i64 0, .int .i64 0, .bool false, .bool false] (.node (.node (.node .nil (some (.bool false)) .nil) (some (.int .i64 0)) .nil) (some (.string (ByteArray.mk #[]))) (.node (.node .nil (some (.bool false)) .nil) (some (.int .i64 0)) .nil)) 5 fun h_1 => nxK h fun i_2 => wrLK i_2 [.string s14, .int .i64 n16, .int .i64 n18, .bool b20, .bool b22] h_1 0 fun h23 => rdK h23 i_2 0 fun v24 => vStrE v24 fun s25 => rdK h23 i_2 1 fun v26 => vIntE' .i64 v26 fun n27 => rdK h23 i_2 2 fun v28 => vIntE' .i64 v28 fun n29 => rdK h23 i_2 3 fun v30 => vBoolE v30 fun b31 => rdK h23 i_2 4 fun v32 => vBoolE v32 fun b33 => C f_ck [.pointer p1, .agg (Array.mk [.string s25, .int .i64 n27, .int .i64 n29, .bool b31, .bool b33])] h23 fun v34 h35 => vTupE v34 fun l36 => lCE l36 fun v37 l38 => vSlE v37 fun p39 m40 m41 => lCE l38 fun v42 l43 => vBoolE v42 fun b44 => lNE l43 (bCE (!b44) (Q (.tuple (Array.mk [.slice none 0 0, .bool false])) h35) (apK ty_elab_text 6 56 h35 (.slice p2 m3 m4) (.slice p39 m40 m41) fun v45 h46 => vSlE v45 fun p47 m48 m49 => D f_cp 3 15407134022657 [.pointer p1, .slice p47 m48 m49, .slice p5 m6 m7, .int .i64 n8, .int .i64 (wI64 (addI n9 1))] h46 Q))) (Q (.tuple (Array.mk [.slice p2 m3 m4, .bool true])) h)
  | _ => False
theorem k_cq : KE P d_cq f_cp 4 15407134022657 := by
  intro C D hC hD a h Q H
  unfold d_cq at H
  split at H
  · show unitAt P f_cp 3 (decL 15407134022657) _ h Q
    rw [show decL 15407134022657 = [0, 6, 11, 12, 13] from by decide]
    refine r_cq ?_
    simp only [wI64_eq, addI_eq] at H
    revert H
    repeat' with_reducible first
 | refine qbr ti_ty_sl_elab_text rfl ti_ty_elab_text rfl rfl rfl ti_ty_sl_elab_text rfl fun _ _ => ?_
 | refine qac ?_
 | refine qad ?_
 | refine qaf hC fun _ _ => ?_
 | refine qag hD (by decide)
 | refine qah (by with_unfolding_all rfl) (by with_unfolding_all rfl) ?_
 | refine qai ?_
 | refine qam fun _ => ?_
 | refine qao fun _ => ?_
 | refine qaq fun _ => ?_
 | refine qas fun _ => ?_
 | refine qat ?_ ?_
 | refine qba fun _ => ?_
 | refine qbb fun _ _ _ => ?_
 | refine qbc fun _ => ?_
 | refine qbd fun _ _ => ?_
 | refine qbe ?_
 | refine qbf fun _ => ?_
 | refine qbh fun _ _ => ?_
 | refine qbo ?_
 | refine qbp ?_
 | refine qbq ?_ ?_
 | exact id
  · exact H.elim
noncomputable def e_cq : Ent P := ⟨f_cp, 4, 15407134022657, d_cq, k_cq⟩
noncomputable def d_ck : BodyT := fun C D a h Q => match a with
  | [.pointer p1, .agg (Array.mk [.string s2, .int .i64 n3, .int .i64 n4, .bool b5, .bool b6])] => fI n3 fun n3 => fI n4 fun n4 => fB b5 fun b5 => fB b6 fun b6 => addKL h [.string s2, .int .i64 n3, .int .i64 n4, .bool b5, .bool b6] (.node (.node (.node .nil (some (.bool b5)) .nil) (some (.int .i64 n3)) .nil) (some (.string s2)) (.node (.node .nil (some (.bool b6)) .nil) (some (.int .i64 n4)) .nil)) 5 fun h_1 => nxK h fun i_2 => rdK h_1 i_2 0 fun v7 => vStrE v7 fun s8 => C f_f5 [.string s8, .string (ByteArray.mk #[36, 40])] h_1 fun v9 h10 => vTupE v9 fun l11 => lCE l11 fun v12 l13 => vStrE v12 fun s14 => lCE l13 fun v15 l16 => vBoolE v15 fun b17 => lNE l16 (bCE b17 (rdK h10 i_2 3 fun v18 => vBoolE v18 fun b19 => bCE (!b19) (C f_f9 [.string s14, .int .u8 41] h10 fun v20 h21 => vIntE' .i64 v20 fun n22 => eqC n22 (wI64 (subI (↑(szE s14) : Int) 1)) (bCE (!bEq s14 (ByteArray.mk #[])) (aPE p1 fun m23 m24 => rdK h21 m23 (m24 + 2) fun v25 => vMapE v25 fun p26 => nBnd (wI64 (subI (↑(szE s14) : Int) 1)) (szE s14) fun m27 => mlK h21 p26 fun l28 => subK s14 0 m27 fun s_3 => lkS s_3 (fun p29 => vSlE (Option.getD p29 (.slice none 0 0)) fun p30 m31 m32 => bCE (!Option.isSome p29) (rdK h21 i_2 0 fun v33 => vStrE v33 fun s34 => rdK h21 i_2 1 fun v35 => vIntE' .i64 v35 fun n36 => rdK h21 i_2 2 fun v37 => vIntE' .i64 v37 fun n38 => rdK h21 i_2 3 fun v39 => vBoolE v39 fun b40 => rdK h21 i_2 4 fun v41 => vBoolE v41 fun b42 => C f_cf [.pointer p1, .int .i64 151, .agg (Array.mk [.string s34, .int .i64 n36, .int .i64 n38, .bool b40, .bool b42])] h21 fun v43 h44 => vBoolE v43 fun b45 => Q (.tuple (Array.mk [.slice none 0 0, .bool b45])) h44) (D f_ck 8 74380930834239489 [.pointer p1, .pointer (some ⟨i_2, 0, none⟩), .slice none 0 0, .slice p30 m31 m32, .int .i64 (↑m31 : Int), .int .i64 0] h21 Q)) l28) (addKL h21 [.pointer none, .slice none 0 0] (.node (.node .nil (some (.slice none 0 0)) .nil) (some (.pointer none)) .nil) 2 fun h_4 => nxK h21 fun i_5 => tagK h_4 i_5 ty_strings_Builder fun h_6 => rdK h_6 i_2 0 fun v46 => vStrE v46 fun s47 => D f_ck 15 18030906223628289 [.pointer p1, .pointer (some ⟨i_2, 0, none⟩), .slice none 0 0, .pointer (some ⟨i_5, 0, none⟩), .bool false, .string s47] h_6 Q)) (addKL h21 [.pointer none, .slice none 0 0] (.node (.node .nil (some (.slice none 0 0)) .nil) (some (.pointer none)) .nil) 2 fun h_7 => nxK h21 fun i_8 => tagK h_7 i_8 ty_strings_Builder fun h_9 => rdK h_9 i_2 0 fun v48 => vStrE v48 fun s49 => D f_ck 15 18030906223628289 [.pointer p1, .pointer (some ⟨i_2, 0, none⟩), .slice none 0 0, .pointer (some ⟨i_8, 0, none⟩), .bool false, .string s49] h_9 Q)) (addKL h10 [.pointer none, .slice none 0 0] (.node (.node .nil (some (.slice none 0 0)) .nil) (some (.pointer none)) .nil) 2 fun h_10 => nxK h10 fun i_11 => tagK h_10 i_11 ty_strings_Builder fun h_12 => rdK h_12 i_2 0 fun v50 => vStrE v50 fun s51 => D f_ck 15 18030906223628289 [.pointer p1, .pointer (some ⟨i_2, 0, none⟩), .slice none 0 0, .pointer (some ⟨i_11, 0, none⟩), .bool false, .string s51] h_12 Q)) (addKL h10 [.pointer none, .slice none 0 0] (.node (.node .nil (some (.slice none 0 0)) .nil) (some (.pointer none)) .nil) 2 fun h_13 => nxK h10 fun i_14 => tagK h_13 i_14 ty_strings_Builder fun h_15 => rdK h_15 i_2 0 fun v52 => vStrE v52 fun s53 => D f_ck 15 18030906223628289 [.pointer p1, .pointer (some ⟨i_2, 0, none⟩), .slice none 0 0, .pointer (some ⟨i_14, 0, none⟩), .bool false, .string s53] h_15 Q))
  | _ => False
theorem k_ck : KE P d_ck f_ck 0 0 := by
  intro C D hC hD a h Q H
  unfold d_ck at H
  split at H
  · show EvQ P f_ck _ h Q
    refine r_ck ?_
    simp only [wI64_eq, subI_eq, szE_eq] at H
    revert H
    repeat' with_reducible first
 | refine qaa fun _ => ?_
 | refine qab fun _ => ?_
 | refine qac ?_
 | refine qae ?_
 | refine qaf hC fun _ _ => ?_
 | refine qag hD (by decide)
 | refine qah (by with_unfolding_all rfl) (by with_unfolding_all rfl) ?_
 | refine qai ?_
 | refine qaj ?_
 | refine qal ?_
 | refine qam fun _ => ?_
 | refine qar fun _ => ?_
 | refine qas fun _ => ?_
 | refine qax ?_ ?_
 | refine qba fun _ => ?_
 | refine qbb fun _ _ _ => ?_
 | refine qbc fun _ => ?_
 | refine qbd fun _ _ => ?_
 | refine qbe ?_
 | refine qbf fun _ => ?_
 | refine qbh fun _ _ => ?_
 | refine qbl fun _ => ?_
 | refine qbo ?_
 | refine qbp ?_
 | refine qbq ?_ ?_
 | exact id
  · exact H.elim
noncomputable def e_ck : Ent P := ⟨f_ck, 0, 0, d_ck, k_ck⟩
noncomputable def d_cl : BodyT := fun C D a h Q => match a with
  | [.pointer p1, .pointer (some ⟨m2, 0, none⟩), .slice p3 m4 m5, .pointer (some ⟨m6, 0, none⟩), .bool b7, .string s8] => fN m2 fun m2 => fN m4 fun m4 => fN m5 fun m5 => fN m6 fun m6 => fB b7 fun b7 => bCE (!bEq s8 (ByteArray.mk #[])) (C f_f9 [.string s8, .int .u8 36] h fun v9 h10 => vIntE' .i64 v9 fun n11 => ltC n11 0 (D f_ck 19 19617696484540026881 [.pointer p1, .pointer (some ⟨m2, 0, none⟩), .slice p3 m4 m5, .pointer (some ⟨m6, 0, none⟩), .bool b7, .string s8, .int .i64 (↑(szE s8) : Int)] h10 Q) (D f_ck 19 19617696484540026881 [.pointer p1, .pointer (some ⟨m2, 0, none⟩), .slice p3 m4 m5, .pointer (some ⟨m6, 0, none⟩), .bool b7, .string s8, .int .i64 n11] h10 Q)) (bCE b7 (rdK h m2 0 fun v12 => vStrE v12 fun s13 => rdK h m2 1 fun v14 => vIntE' .i64 v14 fun n15 => rdK h m2 2 fun v16 => vIntE' .i64 v16 fun n17 => rdK h m2 3 fun v18 => vBoolE v18 fun b19 => rdK h m2 4 fun v20 => vBoolE v20 fun b21 => C f_cf [.pointer p1, .int .i64 3, .agg (Array.mk [.string s13, .int .i64 n15, .int .i64 n17, .bool b19, .bool b21])] h fun v22 h23 => vBoolE v22 fun b24 => Q (.tuple (Array.mk [.slice none 0 0, .bool b24])) h23) (C f_df [.pointer (some ⟨m6, 0, none⟩)] h fun v25 h26 => vStrE v25 fun s27 => rdK h26 m2 0 fun v28 => vStrE v28 fun s29 => rdK h26 m2 1 fun v30 => vIntE' .i64 v30 fun n31 => rdK h26 m2 2 fun v32 => vIntE' .i64 v32 fun n33 => rdK h26 m2 3 fun v34 => vBoolE v34 fun b35 => rdK h26 m2 4 fun v36 => vBoolE v36 fun b37 => addKL h26 [.string s27, .string s29, .int .i64 n31, .int .i64 n33, .bool b35, .bool b37] (.node (.node (.node .nil (some (.int .i64 n33)) .nil) (some (.string s29)) (.node .nil (some (.bool b37)) .nil)) (some (.string s27)) (.node (.node .nil (some (.bool b35)) .nil) (some (.int .i64 n31)) .nil)) 6 fun h_1 => nxK h26 fun i_2 => apK ty_elab_text 6 56 h_1 (.slice p3 m4 m5) (.slice (some ⟨i_2, 0, none⟩) 1 1) fun v38 h39 => vSlE v38 fun p40 m41 m42 => rdK h m2 0 fun v43 => vStrE v43 fun s44 => rdK h m2 1 fun v45 => vIntE' .i64 v45 fun n46 => rdK h m2 2 fun v47 => vIntE' .i64 v47 fun n48 => rdK h m2 3 fun v49 => vBoolE v49 fun b50 => rdK h m2 4 fun v51 => vBoolE v51 fun b52 => bCE (sameB (.agg (Array.mk [.string s44, .int .i64 n46, .int .i64 n48, .bool b50, .bool b52])) (.agg (Array.mk [.string s29, .int .i64 n31, .int .i64 n33, .bool b35, .bool b37]))) (D f_ck 39 169048972180066305 [.pointer p1, .pointer (some ⟨m2, 0, none⟩), .slice p40 m41 m42, .slice p40 m41 m42, .int .i64 (↑m41 : Int), .int .i64 0] h39 Q) False))
  | _ => False
theorem k_cl : KE P d_cl f_ck 16 18030906223628289 := by
  intro C D hC hD a h Q H
  unfold d_cl at H
  split at H
  · show unitAt P f_ck 15 (decL 18030906223628289) _ h Q
    rw [show decL 18030906223628289 = [0, 3, 6, 13, 14, 15] from by decide]
    refine r_cl ?_
    simp only [szE_eq] at H
    revert H
    repeat' with_reducible first
 | refine qbr ti_ty_sl_elab_text rfl ti_ty_elab_text rfl rfl rfl ti_ty_sl_elab_text rfl fun _ _ => ?_
 | refine qad ?_
 | refine qae ?_
 | refine qaf hC fun _ _ => ?_
 | refine qag hD (by decide)
 | refine qah (by with_unfolding_all rfl) (by with_unfolding_all rfl) ?_
 | refine qai ?_
 | refine qam fun _ => ?_
 | refine qas fun _ => ?_
 | refine qat ?_ ?_
 | refine qba fun _ => ?_
 | refine qbb fun _ _ _ => ?_
 | refine qbc fun _ => ?_
 | refine qbo ?_
 | refine qbp ?_
 | refine qbq ?_ ?_
 | exact id
  · exact H.elim
noncomputable def e_cl : Ent P := ⟨f_ck, 16, 18030906223628289, d_cl, k_cl⟩
noncomputable def d_cm : BodyT := fun C D a h Q => match a with
  | [.pointer p1, .pointer (some ⟨m2, 0, none⟩), .slice p3 m4 m5, .pointer (some ⟨m6, 0, none⟩), .bool b7, .string s8, .int .i64 n9] => fN m2 fun m2 => fN m4 fun m4 => fN m5 fun m5 => fN m6 fun m6 => fB b7 fun b7 => fI n9 fun n9 => nBnd n9 (szE s8) fun m10 => subK s8 0 m10 fun s_1 => C f_dh [.pointer (some ⟨m6, 0, none⟩), .string s_1] h fun v11 h12 => vTupE v11 fun l13 => lCE l13 fun v14 l15 => vIntE' .i64 v14 fun n16 => lCE l15 fun v17 l18 => vIfcE v17 (lNE l18 (nBnd n9 (szE s8) fun m19 => subK s8 m19 (szE s8) fun s_2 => bEqC s_2 (ByteArray.mk #[]) (D f_ck 32 18030906223628289 [.pointer p1, .pointer (some ⟨m2, 0, none⟩), .slice p3 m4 m5, .pointer (some ⟨m6, 0, none⟩), .bool b7, .string s_2] h12 Q) (C f_f6 [.string s_2, .string (ByteArray.mk #[36, 36])] h12 fun v20 h21 => vBoolE v20 fun b22 => bCE b22 (C f_dg [.pointer (some ⟨m6, 0, none⟩), .int .u8 36] h21 fun v23 h24 => vIfcE v23 (nBnd 2 (szE s_2) fun m25 => subK s_2 m25 (szE s_2) fun s_3 => D f_ck 32 18030906223628289 [.pointer p1, .pointer (some ⟨m2, 0, none⟩), .slice p3 m4 m5, .pointer (some ⟨m6, 0, none⟩), .bool b7, .string s_3] h24 Q) fun m26 v27 => nBnd 2 (szE s_2) fun m28 => subK s_2 m28 (szE s_2) fun s_4 => D f_ck 32 18030906223628289 [.pointer p1, .pointer (some ⟨m2, 0, none⟩), .slice p3 m4 m5, .pointer (some ⟨m6, 0, none⟩), .bool b7, .string s_4] h24 Q) (C f_f6 [.string s_2, .string (ByteArray.mk #[36, 40])] h21 fun v29 h30 => vBoolE v29 fun b31 => bCE b31 (nBnd 2 (szE s_2) fun m32 => subK s_2 m32 (szE s_2) fun s_5 => C f_ct [.pointer p1, .string s_5] h30 fun v33 h34 => vTupE v33 fun l35 => lCE l35 fun v36 l37 => vStrE v36 fun s38 => lCE l37 fun v39 l40 => vBoolE v39 fun b41 => lNE l40 (D f_ck 24 22452011411619961638913 [.pointer p1, .pointer (some ⟨m2, 0, none⟩), .slice p3 m4 m5, .pointer (some ⟨m6, 0, none⟩), .bool b7, .string s_2, .string s38, .bool b41] h34 Q)) (D f_ck 24 22452011411619961638913 [.pointer p1, .pointer (some ⟨m2, 0, none⟩), .slice p3 m4 m5, .pointer (some ⟨m6, 0, none⟩), .bool b7, .string s_2, .string (ByteArray.mk #[]), .bool false] h30 Q))))) fun m42 v43 => lNE l18 (nBnd n9 (szE s8) fun m44 => subK s8 m44 (szE s8) fun s_6 => bEqC s_6 (ByteArray.mk #[]) (D f_ck 32 18030906223628289 [.pointer p1, .pointer (some ⟨m2, 0, none⟩), .slice p3 m4 m5, .pointer (some ⟨m6, 0, none⟩), .bool b7, .string s_6] h12 Q) (C f_f6 [.string s_6, .string (ByteArray.mk #[36, 36])] h12 fun v45 h46 => vBoolE v45 fun b47 => bCE b47 (C f_dg [.pointer (some ⟨m6, 0, none⟩), .int .u8 36] h46 fun v48 h49 => vIfcE v48 (nBnd 2 (szE s_6) fun m50 => subK s_6 m50 (szE s_6) fun s_7 => D f_ck 32 18030906223628289 [.pointer p1, .pointer (some ⟨m2, 0, none⟩), .slice p3 m4 m5, .pointer (some ⟨m6, 0, none⟩), .bool b7, .string s_7] h49 Q) fun m51 v52 => nBnd 2 (szE s_6) fun m53 => subK s_6 m53 (szE s_6) fun s_8 => D f_ck 32 18030906223628289 [.pointer p1, .pointer (some ⟨m2, 0, none⟩), .slice p3 m4 m5, .pointer (some ⟨m6, 0, none⟩), .bool b7, .string s_8] h49 Q) (C f_f6 [.string s_6, .string (ByteArray.mk #[36, 40])] h46 fun v54 h55 => vBoolE v54 fun b56 => bCE b56 (nBnd 2 (szE s_6) fun m57 => subK s_6 m57 (szE s_6) fun s_9 => C f_ct [.pointer p1, .string s_9] h55 fun v58 h59 => vTupE v58 fun l60 => lCE l60 fun v61 l62 => vStrE v61 fun s63 => lCE l62 fun v64 l65 => vBoolE v64 fun b66 => lNE l65 (D f_ck 24 22452011411619961638913 [.pointer p1, .pointer (some ⟨m2, 0, none⟩), .slice p3 m4 m5, .pointer (some ⟨m6, 0, none⟩), .bool b7, .string s_6, .string s63, .bool b66] h59 Q)) (D f_ck 24 22452011411619961638913 [.pointer p1, .pointer (some ⟨m2, 0, none⟩), .slice p3 m4 m5, .pointer (some ⟨m6, 0, none⟩), .bool b7, .string s_6, .string (ByteArray.mk #[]), .bool false] h55 Q))))
  | _ => False
theorem k_cm : KE P d_cm f_ck 20 19617696484540026881 := by
  intro C D hC hD a h Q H
  unfold d_cm at H
  split at H
  · show unitAt P f_ck 19 (decL 19617696484540026881) _ h Q
    rw [show decL 19617696484540026881 = [0, 3, 6, 13, 14, 15, 16] from by decide]
    refine r_cm ?_
    simp only [szE_eq] at H
    revert H
    repeat' with_reducible first
 | refine qac ?_
 | refine qad ?_
 | refine qae ?_
 | refine qaf hC fun _ _ => ?_
 | refine qag hD (by decide)
 | refine qaj ?_
 | refine qar fun _ => ?_
 | refine qas fun _ => ?_
 | refine qaz ?_ ?_
 | refine qba fun _ => ?_
 | refine qbc fun _ => ?_
 | refine qbd fun _ _ => ?_
 | refine qbe ?_
 | refine qbf fun _ => ?_
 | refine qbj ?_ fun _ _ => ?_
 | refine qbo ?_
 | refine qbp ?_
 | refine qbq ?_ ?_
 | exact id
  · exact H.elim
noncomputable def e_cm : Ent P := ⟨f_ck, 20, 19617696484540026881, d_cm, k_cm⟩
noncomputable def d_cn : BodyT := fun C D a h Q => match a with
  | [.pointer p1, .pointer (some ⟨m2, 0, none⟩), .slice p3 m4 m5, .pointer (some ⟨m6, 0, none⟩), .bool b7, .string s8] => fN m2 fun m2 => fN m4 fun m4 => fN m5 fun m5 => fN m6 fun m6 => fB b7 fun b7 => aPE p1 fun m9 m10 => rdK h m9 (m10 + 3) fun v11 => vIntE' .i64 v11 fun n12 => C f_dd [.pointer (some ⟨m6, 0, none⟩)] h fun v13 h14 => vIntE' .i64 v13 fun n15 => rdK h14 m9 (m10 + 3) fun v16 => vIntE' .i64 v16 fun n17 => bCE (sameB (.int .i64 n17) (.int .i64 n12)) (gtC (wI64 (addI n12 n15)) 32768 (C f_de [.pointer (some ⟨m6, 0, none⟩)] h14 fun v18 h19 => D f_ck 15 18030906223628289 [.pointer p1, .pointer (some ⟨m2, 0, none⟩), .slice p3 m4 m5, .pointer (some ⟨m6, 0, none⟩), .bool true, .string s8] h19 Q) (D f_ck 15 18030906223628289 [.pointer p1, .pointer (some ⟨m2, 0, none⟩), .slice p3 m4 m5, .pointer (some ⟨m6, 0, none⟩), .bool b7, .string s8] h14 Q)) False
  | _ => False
theorem k_cn : KE P d_cn f_ck 33 18030906223628289 := by
  intro C D hC hD a h Q H
  unfold d_cn at H
  split at H
  · show unitAt P f_ck 32 (decL 18030906223628289) _ h Q
    rw [show decL 18030906223628289 = [0, 3, 6, 13, 14, 15] from by decide]
    refine r_cn ?_
    simp only [wI64_eq, addI_eq] at H
    revert H
    repeat' with_reducible first
 | refine qad ?_
 | refine qae ?_
 | refine qaf hC fun _ _ => ?_
 | refine qag hD (by decide)
 | refine qam fun _ => ?_
 | refine qas fun _ => ?_
 | refine qav ?_ ?_
 | refine qbh fun _ _ => ?_
 | refine qbo ?_
 | refine qbp ?_
 | refine qbq ?_ ?_
 | exact id
  · exact H.elim
noncomputable def e_cn : Ent P := ⟨f_ck, 33, 18030906223628289, d_cn, k_cn⟩
noncomputable def d_co : BodyT := fun C D a h Q => match a with
  | [.pointer p1, .pointer (some ⟨m2, 0, none⟩), .slice p3 m4 m5, .slice p6 m7 m8, .int .i64 n9, .int .i64 n10] => fN m2 fun m2 => fN m4 fun m4 => fN m5 fun m5 => fN m7 fun m7 => fN m8 fun m8 => fI n9 fun n9 => fI n10 fun n10 => ltC n10 n9 (aPE p6 fun m11 m12 => nIdx n10 m7 fun m13 => rdK h m11 (m12 + m13 * 6) fun v14 => vStrE v14 fun s15 => rdK h m11 (m12 + m13 * 6 + 1) fun v16 => vStrE v16 fun s17 => rdK h m11 (m12 + m13 * 6 + 1 + 1) fun v18 => vIntE' .i64 v18 fun n19 => rdK h m11 (m12 + m13 * 6 + 1 + 1 + 1) fun v20 => vIntE' .i64 v20 fun n21 => rdK h m11 (m12 + m13 * 6 + 1 + 1 + 1 + 1) fun v22 => vBoolE v22 fun b23 => rdK h m11 (m12 + m13 * 6 + 1 + 1 + 1 + 1 + 1) fun v24 => vBoolE v24 fun b25 => addKL h [.string (ByteArray.mk #[]), .string (ByteArray.mk #[]), .int .i64 0, .int .i64 0, .bool false, .bool false] (.node (.node (.node .nil (some (.int .i64 0)) .nil) (some (.string (ByteArray.mk #[]))) (.node .nil (some (.bool false)) .nil)) (some (.string (ByteArray.mk #[]))) (.node (.node .nil (some (.bool false)) .nil) (some (.int .i64 0)) .nil)) 6 fun h_1 => nxK h fun i_2 => wrLK i_2 [.string s15, .string s17, .int .i64 n19, .int .i64 n21, .bool b23, .bool b25] h_1 0 fun h26 => aPE p1 fun m27 m28 => rdK h26 m27 (m28 + 3) fun v29 => vIntE' .i64 v29 fun n30 => rdK h26 i_2 0 fun v31 => vStrE v31 fun s32 => aPE p1 fun m33 m34 => wrK h26 m33 (m34 + 3) (.int .i64 (wI64 (addI n30 (↑(szE s32) : Int)))) fun h35 => D f_ck 39 169048972180066305 [.pointer p1, .pointer (some ⟨m2, 0, none⟩), .slice p3 m4 m5, .slice p6 m7 m8, .int .i64 n9, .int .i64 (wI64 (addI n10 1))] h35 Q) (aPE p1 fun m36 m37 => rdK h m36 (m37 + 3) fun v38 => vIntE' .i64 v38 fun n39 => gtC n39 32768 (rdK h m2 0 fun v40 => vStrE v40 fun s41 => rdK h m2 1 fun v42 => vIntE' .i64 v42 fun n43 => rdK h m2 2 fun v44 => vIntE' .i64 v44 fun n45 => rdK h m2 3 fun v46 => vBoolE v46 fun b47 => rdK h m2 4 fun v48 => vBoolE v48 fun b49 => C f_cf [.pointer p1, .int .i64 3, .agg (Array.mk [.string s41, .int .i64 n43, .int .i64 n45, .bool b47, .bool b49])] h fun v50 h51 => vBoolE v50 fun b52 => Q (.tuple (Array.mk [.slice none 0 0, .bool b52])) h51) (Q (.tuple (Array.mk [.slice p3 m4 m5, .bool true])) h))
  | _ => False
theorem k_co : KE P d_co f_ck 40 169048972180066305 := by
  intro C D hC hD a h Q H
  unfold d_co at H
  split at H
  · show unitAt P f_ck 39 (decL 169048972180066305) _ h Q
    rw [show decL 169048972180066305 = [0, 3, 6, 147, 148, 149] from by decide]
    refine r_co ?_
    simp only [wI64_eq, addI_eq, szE_eq] at H
    revert H
    repeat' with_reducible first
 | refine qac ?_
 | refine qad ?_
 | refine qaf hC fun _ _ => ?_
 | refine qag hD (by decide)
 | refine qah (by with_unfolding_all rfl) (by with_unfolding_all rfl) ?_
 | refine qai ?_
 | refine qam fun _ => ?_
 | refine qan fun _ => ?_
 | refine qao fun _ => ?_
 | refine qaq fun _ => ?_
 | refine qas fun _ => ?_
 | refine qat ?_ ?_
 | refine qav ?_ ?_
 | refine qba fun _ => ?_
 | refine qbc fun _ => ?_
 | refine qbh fun _ _ => ?_
 | exact id
  · exact H.elim
noncomputable def e_co : Ent P := ⟨f_ck, 40, 169048972180066305, d_co, k_co⟩
noncomputable def d_a5 : BodyT := fun C D a h Q => match a with
  | [.int .i64 n1, .pointer (some ⟨m2, m3, none⟩), .pointer (some ⟨m4, m5, none⟩), .pointer (some ⟨m6, m7, none⟩), .pointer (some ⟨m8, m9, none⟩), .pointer (some ⟨m10, m11, none⟩)] => fI n1 fun n1 => fN m2 fun m2 => fN m3 fun m3 => fN m4 fun m4 => fN m5 fun m5 => fN m6 fun m6 => fN m7 fun m7 => fN m8 fun m8 => fN m9 fun m9 => fN m10 fun m10 => fN m11 fun m11 => D f_a5 2 10383054442758932481 [.int .i64 n1, .pointer (some ⟨m2, m3, none⟩), .pointer (some ⟨m4, m5, none⟩), .pointer (some ⟨m6, m7, none⟩), .pointer (some ⟨m8, m9, none⟩), .pointer (some ⟨m10, m11, none⟩), .slice none 0 0] h Q
  | _ => False
theorem k_a5 : KE P d_a5 f_a5 0 0 := by
  intro C D hC hD a h Q H
  unfold d_a5 at H
  split at H
  · show EvQ P f_a5 _ h Q
    refine r_a5 ?_
    revert H
    repeat' with_reducible first
 | refine qac ?_
 | refine qad ?_
 | refine qag hD (by decide)
 | exact id
  · exact H.elim
noncomputable def e_a5 : Ent P := ⟨f_a5, 0, 0, d_a5, k_a5⟩
noncomputable def d_a6 : BodyT := fun C D a h Q => match a with
  | [.int .i64 n1, .pointer (some ⟨m2, m3, none⟩), .pointer (some ⟨m4, m5, none⟩), .pointer (some ⟨m6, m7, none⟩), .pointer (some ⟨m8, m9, none⟩), .pointer (some ⟨m10, m11, none⟩), .slice p12 m13 m14] => fI n1 fun n1 => fN m2 fun m2 => fN m3 fun m3 => fN m4 fun m4 => fN m5 fun m5 => fN m6 fun m6 => fN m7 fun m7 => fN m8 fun m8 => fN m9 fun m9 => fN m10 fun m10 => fN m11 fun m11 => fN m13 fun m13 => fN m14 fun m14 => rdK h m2 m3 fun v15 => vIntE' .i64 v15 fun n16 => eqC n16 0 (rdK h m4 m5 fun v17 => vFun v17 fun m18 l19 l20 => C m18 (l19 ++ ([] ++ l20)) h fun v21 h22 => vTupE v21 fun l23 => lCE l23 fun v24 l25 => vSlE v24 fun p26 m27 m28 => lCE l25 fun v29 l30 => vBoolE v29 fun b31 => lNE l30 (bCE (!b31) (gtC n1 0 (rdK h22 m6 m7 fun v32 => vIntE' .i64 v32 fun n33 => wrLK m2 [.int .i64 131, .int .i64 n33] h22 m3 fun h34 => Q (.slice p12 m13 m14) h34) (Q (.slice p12 m13 m14) h22)) (eqC (↑m27 : Int) 1 (aPE p26 fun m35 m36 => nIdx 0 m27 fun m37 => rdK h22 m35 (m36 + m37 * 1) fun v38 => vStrE v38 fun s39 => bEqC s39 (ByteArray.mk #[101, 110, 100]) (eqC n1 0 (rdK h22 m6 m7 fun v40 => vIntE' .i64 v40 fun n41 => wrLK m2 [.int .i64 131, .int .i64 (wI64 (subI n41 1))] h22 m3 fun h42 => Q (.slice p12 m13 m14) h42) (Q (.slice p12 m13 m14) h22)) (C f_am [.slice p26 m27 m28] h22 fun v43 h44 => vTupE v43 fun l45 => lCE l45 fun v46 l47 => vAggE v46 fun l48 => lCE l48 fun v49 l50 => vIntE' .i64 v49 fun n51 => lCE l50 fun v52 l53 => vSlE v52 fun p54 m55 m56 => lCE l53 fun v57 l58 => vIntE' .i64 v57 fun n59 => lCE l58 fun v60 l61 => vSlE v60 fun p62 m63 m64 => lNE l61 (lCE l47 fun v65 l66 => vBoolE v65 fun b67 => lNE l66 (addKL h44 [.int .i64 0, .slice none 0 0, .int .i64 0, .slice none 0 0] (.node (.node (.node .nil (some (.slice none 0 0)) .nil) (some (.slice none 0 0)) .nil) (some (.int .i64 0)) (.node .nil (some (.int .i64 0)) .nil)) 4 fun h_1 => nxK h44 fun i_2 => wrLK i_2 [.int .i64 n51, .slice p54 m55 m56, .int .i64 n59, .slice p62 m63 m64] h_1 0 fun h68 => rdK h68 m8 m9 fun v69 => vIntE' .i64 v69 fun n70 => wrK h68 m8 m9 (.int .i64 (wI64 (addI n70 1))) fun h71 => bCE (!b67) (rdK h71 m6 m7 fun v72 => vIntE' .i64 v72 fun n73 => wrLK m2 [.int .i64 130, .int .i64 (wI64 (subI n73 1))] h71 m3 fun h74 => rdK h74 i_2 0 fun v75 => vIntE' .i64 v75 fun n76 => rdK h74 i_2 1 fun v77 => vSlE v77 fun p78 m79 m80 => rdK h74 i_2 2 fun v81 => vIntE' .i64 v81 fun n82 => rdK h74 i_2 3 fun v83 => vSlE v83 fun p84 m85 m86 => addKL h74 [.int .i64 n76, .slice p78 m79 m80, .int .i64 n82, .slice p84 m85 m86] (.node (.node (.node .nil (some (.slice p84 m85 m86)) .nil) (some (.slice p78 m79 m80)) .nil) (some (.int .i64 n76)) (.node .nil (some (.int .i64 n82)) .nil)) 4 fun h_3 => nxK h74 fun i_4 => apK ty_api_Stmt 4 64 h_3 (.slice p12 m13 m14) (.slice (some ⟨i_4, 0, none⟩) 1 1) fun v87 h88 => vSlE v87 fun p89 m90 m91 => D f_a5 2 10383054442758932481 [.int .i64 n1, .pointer (some ⟨m2, m3, none⟩), .pointer (some ⟨m4, m5, none⟩), .pointer (some ⟨m6, m7, none⟩), .pointer (some ⟨m8, m9, none⟩), .pointer (some ⟨m10, m11, none⟩), .slice p89 m90 m91] h88 Q) (rdK h71 m8 m9 fun v92 => vIntE' .i64 v92 fun n93 => gtC n93 256 (rdK h71 m6 m7 fun v94 => vIntE' .i64 v94 fun n95 => wrLK m2 [.int .i64 3, .int .i64 (wI64 (subI n95 1))] h71 m3 fun h96 => rdK h96 i_2 0 fun v97 => vIntE' .i64 v97 fun n98 => rdK h96 i_2 1 fun v99 => vSlE v99 fun p100 m101 m102 => rdK h96 i_2 2 fun v103 => vIntE' .i64 v103 fun n104 => rdK h96 i_2 3 fun v105 => vSlE v105 fun p106 m107 m108 => addKL h96 [.int .i64 n98, .slice p100 m101 m102, .int .i64 n104, .slice p106 m107 m108] (.node (.node (.node .nil (some (.slice p106 m107 m108)) .nil) (some (.slice p100 m101 m102)) .nil) (some (.int .i64 n98)) (.node .nil (some (.int .i64 n104)) .nil)) 4 fun h_5 => nxK h96 fun i_6 => apK ty_api_Stmt 4 64 h_5 (.slice p12 m13 m14) (.slice (some ⟨i_6, 0, none⟩) 1 1) fun v109 h110 => vSlE v109 fun p111 m112 m113 => D f_a5 2 10383054442758932481 [.int .i64 n1, .pointer (some ⟨m2, m3, none⟩), .pointer (some ⟨m4, m5, none⟩), .pointer (some ⟨m6, m7, none⟩), .pointer (some ⟨m8, m9, none⟩), .pointer (some ⟨m10, m11, none⟩), .slice p111 m112 m113] h110 Q) (rdK h71 i_2 0 fun v114 => vIntE' .i64 v114 fun n115 => C f_aj [.int .i64 n115] h71 fun v116 h117 => vBoolE v116 fun b118 => bCE b118 (eqC n1 8 (rdK h117 m6 m7 fun v119 => vIntE' .i64 v119 fun n120 => wrLK m2 [.int .i64 132, .int .i64 (wI64 (subI n120 1))] h117 m3 fun h121 => rdK h121 i_2 0 fun v122 => vIntE' .i64 v122 fun n123 => rdK h121 i_2 1 fun v124 => vSlE v124 fun p125 m126 m127 => rdK h121 i_2 2 fun v128 => vIntE' .i64 v128 fun n129 => rdK h121 i_2 3 fun v130 => vSlE v130 fun p131 m132 m133 => addKL h121 [.int .i64 n123, .slice p125 m126 m127, .int .i64 n129, .slice p131 m132 m133] (.node (.node (.node .nil (some (.slice p131 m132 m133)) .nil) (some (.slice p125 m126 m127)) .nil) (some (.int .i64 n123)) (.node .nil (some (.int .i64 n129)) .nil)) 4 fun h_7 => nxK h121 fun i_8 => apK ty_api_Stmt 4 64 h_7 (.slice p12 m13 m14) (.slice (some ⟨i_8, 0, none⟩) 1 1) fun v134 h135 => vSlE v134 fun p136 m137 m138 => D f_a5 2 10383054442758932481 [.int .i64 n1, .pointer (some ⟨m2, m3, none⟩), .pointer (some ⟨m4, m5, none⟩), .pointer (some ⟨m6, m7, none⟩), .pointer (some ⟨m8, m9, none⟩), .pointer (some ⟨m10, m11, none⟩), .slice p136 m137 m138] h135 Q) (rdK h117 i_2 0 fun v139 => vIntE' .i64 v139 fun n140 => C f_aj [.int .i64 n140] h117 fun v141 h142 => vBoolE v141 fun b143 => bCE b143 (rdK h142 m10 m11 fun v144 => vFun v144 fun m145 l146 l147 => C m145 (l146 ++ .int .i64 (wI64 (addI n1 1)) :: l147) h142 fun v148 h149 => vSlE v148 fun p150 m151 m152 => wrK h149 i_2 3 (.slice p150 m151 m152) fun h153 => rdK h153 i_2 0 fun v154 => vIntE' .i64 v154 fun n155 => rdK h153 i_2 1 fun v156 => vSlE v156 fun p157 m158 m159 => rdK h153 i_2 2 fun v160 => vIntE' .i64 v160 fun n161 => rdK h153 i_2 3 fun v162 => vSlE v162 fun p163 m164 m165 => addKL h153 [.int .i64 n155, .slice p157 m158 m159, .int .i64 n161, .slice p163 m164 m165] (.node (.node (.node .nil (some (.slice p163 m164 m165)) .nil) (some (.slice p157 m158 m159)) .nil) (some (.int .i64 n155)) (.node .nil (some (.int .i64 n161)) .nil)) 4 fun h_9 => nxK h153 fun i_10 => apK ty_api_Stmt 4 64 h_9 (.slice p12 m13 m14) (.slice (some ⟨i_10, 0, none⟩) 1 1) fun v166 h167 => vSlE v166 fun p168 m169 m170 => D f_a5 2 10383054442758932481 [.int .i64 n1, .pointer (some ⟨m2, m3, none⟩), .pointer (some ⟨m4, m5, none⟩), .pointer (some ⟨m6, m7, none⟩), .pointer (some ⟨m8, m9, none⟩), .pointer (some ⟨m10, m11, none⟩), .slice p168 m169 m170] h167 Q) (rdK h142 i_2 0 fun v171 => vIntE' .i64 v171 fun n172 => rdK h142 i_2 1 fun v173 => vSlE v173 fun p174 m175 m176 => rdK h142 i_2 2 fun v177 => vIntE' .i64 v177 fun n178 => rdK h142 i_2 3 fun v179 => vSlE v179 fun p180 m181 m182 => addKL h142 [.int .i64 n172, .slice p174 m175 m176, .int .i64 n178, .slice p180 m181 m182] (.node (.node (.node .nil (some (.slice p180 m181 m182)) .nil) (some (.slice p174 m175 m176)) .nil) (some (.int .i64 n172)) (.node .nil (some (.int .i64 n178)) .nil)) 4 fun h_11 => nxK h142 fun i_12 => apK ty_api_Stmt 4 64 h_11 (.slice p12 m13 m14) (.slice (some ⟨i_12, 0, none⟩) 1 1) fun v183 h184 => vSlE v183 fun p185 m186 m187 => D f_a5 2 10383054442758932481 [.int .i64 n1, .pointer (some ⟨m2, m3, none⟩), .pointer (some ⟨m4, m5, none⟩), .pointer (some ⟨m6, m7, none⟩), .pointer (some ⟨m8, m9, none⟩), .pointer (some ⟨m10, m11, none⟩), .slice p185 m186 m187] h184 Q))) (rdK h117 i_2 0 fun v188 => vIntE' .i64 v188 fun n189 => C f_aj [.int .i64 n189] h117 fun v190 h191 => vBoolE v190 fun b192 => bCE b192 (rdK h191 m10 m11 fun v193 => vFun v193 fun m194 l195 l196 => C m194 (l195 ++ .int .i64 (wI64 (addI n1 1)) :: l196) h191 fun v197 h198 => vSlE v197 fun p199 m200 m201 => wrK h198 i_2 3 (.slice p199 m200 m201) fun h202 => rdK h202 i_2 0 fun v203 => vIntE' .i64 v203 fun n204 => rdK h202 i_2 1 fun v205 => vSlE v205 fun p206 m207 m208 => rdK h202 i_2 2 fun v209 => vIntE' .i64 v209 fun n210 => rdK h202 i_2 3 fun v211 => vSlE v211 fun p212 m213 m214 => addKL h202 [.int .i64 n204, .slice p206 m207 m208, .int .i64 n210, .slice p212 m213 m214] (.node (.node (.node .nil (some (.slice p212 m213 m214)) .nil) (some (.slice p206 m207 m208)) .nil) (some (.int .i64 n204)) (.node .nil (some (.int .i64 n210)) .nil)) 4 fun h_13 => nxK h202 fun i_14 => apK ty_api_Stmt 4 64 h_13 (.slice p12 m13 m14) (.slice (some ⟨i_14, 0, none⟩) 1 1) fun v215 h216 => vSlE v215 fun p217 m218 m219 => D f_a5 2 10383054442758932481 [.int .i64 n1, .pointer (some ⟨m2, m3, none⟩), .pointer (some ⟨m4, m5, none⟩), .pointer (some ⟨m6, m7, none⟩), .pointer (some ⟨m8, m9, none⟩), .pointer (some ⟨m10, m11, none⟩), .slice p217 m218 m219] h216 Q) (rdK h191 i_2 0 fun v220 => vIntE' .i64 v220 fun n221 => rdK h191 i_2 1 fun v222 => vSlE v222 fun p223 m224 m225 => rdK h191 i_2 2 fun v226 => vIntE' .i64 v226 fun n227 => rdK h191 i_2 3 fun v228 => vSlE v228 fun p229 m230 m231 => addKL h191 [.int .i64 n221, .slice p223 m224 m225, .int .i64 n227, .slice p229 m230 m231] (.node (.node (.node .nil (some (.slice p229 m230 m231)) .nil) (some (.slice p223 m224 m225)) .nil) (some (.int .i64 n221)) (.node .nil (some (.int .i64 n227)) .nil)) 4 fun h_15 => nxK h191 fun i_16 => apK ty_api_Stmt 4 64 h_15 (.slice p12 m13 m14) (.slice (some ⟨i_16, 0, none⟩) 1 1) fun v232 h233 => vSlE v232 fun p234 m235 m236 => D f_a5 2 10383054442758932481 [.int .i64 n1, .pointer (some ⟨m2, m3, none⟩), .pointer (some ⟨m4, m5, none⟩), .pointer (some ⟨m6, m7, none⟩), .pointer (some ⟨m8, m9, none⟩), .pointer (some ⟨m10, m11, none⟩), .slice p234 m235 m236] h233 Q)))))))) (C f_am [.slice p26 m27 m28] h22 fun v237 h238 => vTupE v237 fun l239 => lCE l239 fun v240 l241 => vAggE v240 fun l242 => lCE l242 fun v243 l244 => vIntE' .i64 v243 fun n245 => lCE l244 fun v246 l247 => vSlE v246 fun p248 m249 m250 => lCE l247 fun v251 l252 => vIntE' .i64 v251 fun n253 => lCE l252 fun v254 l255 => vSlE v254 fun p256 m257 m258 => lNE l255 (lCE l241 fun v259 l260 => vBoolE v259 fun b261 => lNE l260 (addKL h238 [.int .i64 0, .slice none 0 0, .int .i64 0, .slice none 0 0] (.node (.node (.node .nil (some (.slice none 0 0)) .nil) (some (.slice none 0 0)) .nil) (some (.int .i64 0)) (.node .nil (some (.int .i64 0)) .nil)) 4 fun h_17 => nxK h238 fun i_18 => wrLK i_18 [.int .i64 n245, .slice p248 m249 m250, .int .i64 n253, .slice p256 m257 m258] h_17 0 fun h262 => rdK h262 m8 m9 fun v263 => vIntE' .i64 v263 fun n264 => wrK h262 m8 m9 (.int .i64 (wI64 (addI n264 1))) fun h265 => bCE (!b261) (rdK h265 m6 m7 fun v266 => vIntE' .i64 v266 fun n267 => wrLK m2 [.int .i64 130, .int .i64 (wI64 (subI n267 1))] h265 m3 fun h268 => rdK h268 i_18 0 fun v269 => vIntE' .i64 v269 fun n270 => rdK h268 i_18 1 fun v271 => vSlE v271 fun p272 m273 m274 => rdK h268 i_18 2 fun v275 => vIntE' .i64 v275 fun n276 => rdK h268 i_18 3 fun v277 => vSlE v277 fun p278 m279 m280 => addKL h268 [.int .i64 n270, .slice p272 m273 m274, .int .i64 n276, .slice p278 m279 m280] (.node (.node (.node .nil (some (.slice p278 m279 m280)) .nil) (some (.slice p272 m273 m274)) .nil) (some (.int .i64 n270)) (.node .nil (some (.int .i64 n276)) .nil)) 4 fun h_19 => nxK h268 fun i_20 => apK ty_api_Stmt 4 64 h_19 (.slice p12 m13 m14) (.slice (some ⟨i_20, 0, none⟩) 1 1) fun v281 h282 => vSlE v281 fun p283 m284 m285 => D f_a5 2 10383054442758932481 [.int .i64 n1, .pointer (some ⟨m2, m3, none⟩), .pointer (some ⟨m4, m5, none⟩), .pointer (some ⟨m6, m7, none⟩), .pointer (some ⟨m8, m9, none⟩), .pointer (some ⟨m10, m11, none⟩), .slice p283 m284 m285] h282 Q) (rdK h265 m8 m9 fun v286 => vIntE' .i64 v286 fun n287 => gtC n287 256 (rdK h265 m6 m7 fun v288 => vIntE' .i64 v288 fun n289 => wrLK m2 [.int .i64 3, .int .i64 (wI64 (subI n289 1))] h265 m3 fun h290 => rdK h290 i_18 0 fun v291 => vIntE' .i64 v291 fun n292 => rdK h290 i_18 1 fun v293 => vSlE v293 fun p294 m295 m296 => rdK h290 i_18 2 fun v297 => vIntE' .i64 v297 fun n298 => rdK h290 i_18 3 fun v299 => vSlE v299 fun p300 m301 m302 => addKL h290 [.int .i64 n292, .slice p294 m295 m296, .int .i64 n298, .slice p300 m301 m302] (.node (.node (.node .nil (some (.slice p300 m301 m302)) .nil) (some (.slice p294 m295 m296)) .nil) (some (.int .i64 n292)) (.node .nil (some (.int .i64 n298)) .nil)) 4 fun h_21 => nxK h290 fun i_22 => apK ty_api_Stmt 4 64 h_21 (.slice p12 m13 m14) (.slice (some ⟨i_22, 0, none⟩) 1 1) fun v303 h304 => vSlE v303 fun p305 m306 m307 => D f_a5 2 10383054442758932481 [.int .i64 n1, .pointer (some ⟨m2, m3, none⟩), .pointer (some ⟨m4, m5, none⟩), .pointer (some ⟨m6, m7, none⟩), .pointer (some ⟨m8, m9, none⟩), .pointer (some ⟨m10, m11, none⟩), .slice p305 m306 m307] h304 Q) (rdK h265 i_18 0 fun v308 => vIntE' .i64 v308 fun n309 => C f_aj [.int .i64 n309] h265 fun v310 h311 => vBoolE v310 fun b312 => bCE b312 (eqC n1 8 (rdK h311 m6 m7 fun v313 => vIntE' .i64 v313 fun n314 => wrLK m2 [.int .i64 132, .int .i64 (wI64 (subI n314 1))] h311 m3 fun h315 => rdK h315 i_18 0 fun v316 => vIntE' .i64 v316 fun n317 => rdK h315 i_18 1 fun v318 => vSlE v318 fun p319 m320 m321 => rdK h315 i_18 2 fun v322 => vIntE' .i64 v322 fun n323 => rdK h315 i_18 3 fun v324 => vSlE v324 fun p325 m326 m327 => addKL h315 [.int .i64 n317, .slice p319 m320 m321, .int .i64 n323, .slice p325 m326 m327] (.node (.node (.node .nil (some (.slice p325 m326 m327)) .nil) (some (.slice p319 m320 m321)) .nil) (some (.int .i64 n317)) (.node .nil (some (.int .i64 n323)) .nil)) 4 fun h_23 => nxK h315 fun i_24 => apK ty_api_Stmt 4 64 h_23 (.slice p12 m13 m14) (.slice (some ⟨i_24, 0, none⟩) 1 1) fun v328 h329 => vSlE v328 fun p330 m331 m332 => D f_a5 2 10383054442758932481 [.int .i64 n1, .pointer (some ⟨m2, m3, none⟩), .pointer (some ⟨m4, m5, none⟩), .pointer (some ⟨m6, m7, none⟩), .pointer (some ⟨m8, m9, none⟩), .pointer (some ⟨m10, m11, none⟩), .slice p330 m331 m332] h329 Q) (rdK h311 i_18 0 fun v333 => vIntE' .i64 v333 fun n334 => C f_aj [.int .i64 n334] h311 fun v335 h336 => vBoolE v335 fun b337 => bCE b337 (rdK h336 m10 m11 fun v338 => vFun v338 fun m339 l340 l341 => C m339 (l340 ++ .int .i64 (wI64 (addI n1 1)) :: l341) h336 fun v342 h343 => vSlE v342 fun p344 m345 m346 => wrK h343 i_18 3 (.slice p344 m345 m346) fun h347 => rdK h347 i_18 0 fun v348 => vIntE' .i64 v348 fun n349 => rdK h347 i_18 1 fun v350 => vSlE v350 fun p351 m352 m353 => rdK h347 i_18 2 fun v354 => vIntE' .i64 v354 fun n355 => rdK h347 i_18 3 fun v356 => vSlE v356 fun p357 m358 m359 => addKL h347 [.int .i64 n349, .slice p351 m352 m353, .int .i64 n355, .slice p357 m358 m359] (.node (.node (.node .nil (some (.slice p357 m358 m359)) .nil) (some (.slice p351 m352 m353)) .nil) (some (.int .i64 n349)) (.node .nil (some (.int .i64 n355)) .nil)) 4 fun h_25 => nxK h347 fun i_26 => apK ty_api_Stmt 4 64 h_25 (.slice p12 m13 m14) (.slice (some ⟨i_26, 0, none⟩) 1 1) fun v360 h361 => vSlE v360 fun p362 m363 m364 => D f_a5 2 10383054442758932481 [.int .i64 n1, .pointer (some ⟨m2, m3, none⟩), .pointer (some ⟨m4, m5, none⟩), .pointer (some ⟨m6, m7, none⟩), .pointer (some ⟨m8, m9, none⟩), .pointer (some ⟨m10, m11, none⟩), .slice p362 m363 m364] h361 Q) (rdK h336 i_18 0 fun v365 => vIntE' .i64 v365 fun n366 => rdK h336 i_18 1 fun v367 => vSlE v367 fun p368 m369 m370 => rdK h336 i_18 2 fun v371 => vIntE' .i64 v371 fun n372 => rdK h336 i_18 3 fun v373 => vSlE v373 fun p374 m375 m376 => addKL h336 [.int .i64 n366, .slice p368 m369 m370, .int .i64 n372, .slice p374 m375 m376] (.node (.node (.node .nil (some (.slice p374 m375 m376)) .nil) (some (.slice p368 m369 m370)) .nil) (some (.int .i64 n366)) (.node .nil (some (.int .i64 n372)) .nil)) 4 fun h_27 => nxK h336 fun i_28 => apK ty_api_Stmt 4 64 h_27 (.slice p12 m13 m14) (.slice (some ⟨i_28, 0, none⟩) 1 1) fun v377 h378 => vSlE v377 fun p379 m380 m381 => D f_a5 2 10383054442758932481 [.int .i64 n1, .pointer (some ⟨m2, m3, none⟩), .pointer (some ⟨m4, m5, none⟩), .pointer (some ⟨m6, m7, none⟩), .pointer (some ⟨m8, m9, none⟩), .pointer (some ⟨m10, m11, none⟩), .slice p379 m380 m381] h378 Q))) (rdK h311 i_18 0 fun v382 => vIntE' .i64 v382 fun n383 => C f_aj [.int .i64 n383] h311 fun v384 h385 => vBoolE v384 fun b386 => bCE b386 (rdK h385 m10 m11 fun v387 => vFun v387 fun m388 l389 l390 => C m388 (l389 ++ .int .i64 (wI64 (addI n1 1)) :: l390) h385 fun v391 h392 => vSlE v391 fun p393 m394 m395 => wrK h392 i_18 3 (.slice p393 m394 m395) fun h396 => rdK h396 i_18 0 fun v397 => vIntE' .i64 v397 fun n398 => rdK h396 i_18 1 fun v399 => vSlE v399 fun p400 m401 m402 => rdK h396 i_18 2 fun v403 => vIntE' .i64 v403 fun n404 => rdK h396 i_18 3 fun v405 => vSlE v405 fun p406 m407 m408 => addKL h396 [.int .i64 n398, .slice p400 m401 m402, .int .i64 n404, .slice p406 m407 m408] (.node (.node (.node .nil (some (.slice p406 m407 m408)) .nil) (some (.slice p400 m401 m402)) .nil) (some (.int .i64 n398)) (.node .nil (some (.int .i64 n404)) .nil)) 4 fun h_29 => nxK h396 fun i_30 => apK ty_api_Stmt 4 64 h_29 (.slice p12 m13 m14) (.slice (some ⟨i_30, 0, none⟩) 1 1) fun v409 h410 => vSlE v409 fun p411 m412 m413 => D f_a5 2 10383054442758932481 [.int .i64 n1, .pointer (some ⟨m2, m3, none⟩), .pointer (some ⟨m4, m5, none⟩), .pointer (some ⟨m6, m7, none⟩), .pointer (some ⟨m8, m9, none⟩), .pointer (some ⟨m10, m11, none⟩), .slice p411 m412 m413] h410 Q) (rdK h385 i_18 0 fun v414 => vIntE' .i64 v414 fun n415 => rdK h385 i_18 1 fun v416 => vSlE v416 fun p417 m418 m419 => rdK h385 i_18 2 fun v420 => vIntE' .i64 v420 fun n421 => rdK h385 i_18 3 fun v422 => vSlE v422 fun p423 m424 m425 => addKL h385 [.int .i64 n415, .slice p417 m418 m419, .int .i64 n421, .slice p423 m424 m425] (.node (.node (.node .nil (some (.slice p423 m424 m425)) .nil) (some (.slice p417 m418 m419)) .nil) (some (.int .i64 n415)) (.node .nil (some (.int .i64 n421)) .nil)) 4 fun h_31 => nxK h385 fun i_32 => apK ty_api_Stmt 4 64 h_31 (.slice p12 m13 m14) (.slice (some ⟨i_32, 0, none⟩) 1 1) fun v426 h427 => vSlE v426 fun p428 m429 m430 => D f_a5 2 10383054442758932481 [.int .i64 n1, .pointer (some ⟨m2, m3, none⟩), .pointer (some ⟨m4, m5, none⟩), .pointer (some ⟨m6, m7, none⟩), .pointer (some ⟨m8, m9, none⟩), .pointer (some ⟨m10, m11, none⟩), .slice p428 m429 m430] h427 Q)))))))))) (Q (.slice p12 m13 m14) h)
  | _ => False
theorem k_a6 : KE P d_a6 f_a5 3 10383054442758932481 := by
  intro C D hC hD a h Q H
  unfold d_a6 at H
  split at H
  · show unitAt P f_a5 2 (decL 10383054442758932481) _ h Q
    rw [show decL 10383054442758932481 = [0, 1, 2, 3, 4, 5, 8] from by decide]
    refine r_a6 ?_
    simp only [wI64_eq, addI_eq, subI_eq] at H
    revert H
    repeat' with_reducible first
 | refine qbr ti_ty_sl_api_Stmt rfl ti_ty_api_Stmt rfl rfl rfl ti_ty_sl_api_Stmt rfl fun _ _ => ?_
 | refine qac ?_
 | refine qad ?_
 | refine qaf hC fun _ _ => ?_
 | refine qag hD (by decide)
 | refine qah (by with_unfolding_all rfl) (by with_unfolding_all rfl) ?_
 | refine qai ?_
 | refine qam fun _ => ?_
 | refine qan fun _ => ?_
 | refine qao fun _ => ?_
 | refine qaq fun _ => ?_
 | refine qas fun _ => ?_
 | refine qav ?_ ?_
 | refine qax ?_ ?_
 | refine qaz ?_ ?_
 | refine qba fun _ => ?_
 | refine qbb fun _ _ _ => ?_
 | refine qbc fun _ => ?_
 | refine qbd fun _ _ => ?_
 | refine qbe ?_
 | refine qbf fun _ => ?_
 | refine qbh fun _ _ => ?_
 | refine qbk fun _ => ?_
 | refine qbm fun _ _ _ => ?_
 | refine qbo ?_
 | refine qbp ?_
 | refine qbq ?_ ?_
 | exact id
  · exact H.elim
noncomputable def e_a6 : Ent P := ⟨f_a5, 3, 10383054442758932481, d_a6, k_a6⟩
noncomputable def d_ao : BodyT := fun C D a h Q => match a with
  | [.int .i64 n1] => fI n1 fun n1 => addKL h [.string (ByteArray.mk #[]), .string (ByteArray.mk #[]), .string (ByteArray.mk #[]), .string (ByteArray.mk #[]), .string (ByteArray.mk #[]), .string (ByteArray.mk #[]), .string (ByteArray.mk #[]), .string (ByteArray.mk #[]), .string (ByteArray.mk #[]), .string (ByteArray.mk #[]), .string (ByteArray.mk #[]), .string (ByteArray.mk #[]), .string (ByteArray.mk #[])] (.node (.node (.node (.node .nil (some (.string (ByteArray.mk #[]))) .nil) (some (.string (ByteArray.mk #[]))) (.node .nil (some (.string (ByteArray.mk #[]))) .nil)) (some (.string (ByteArray.mk #[]))) (.node (.node .nil (some (.string (ByteArray.mk #[]))) .nil) (some (.string (ByteArray.mk #[]))) .nil)) (some (.string (ByteArray.mk #[]))) (.node (.node (.node .nil (some (.string (ByteArray.mk #[]))) .nil) (some (.string (ByteArray.mk #[]))) (.node .nil (some (.string (ByteArray.mk #[]))) .nil)) (some (.string (ByteArray.mk #[]))) (.node (.node .nil (some (.string (ByteArray.mk #[]))) .nil) (some (.string (ByteArray.mk #[]))) .nil))) 13 fun h_1 => nxK h fun i_2 => wrLK i_2 [.string (ByteArray.mk #[]), .string (ByteArray.mk #[110, 101, 101, 100]), .string (ByteArray.mk #[99, 97, 116]), .string (ByteArray.mk #[116, 101, 120, 116]), .string (ByteArray.mk #[117, 112, 112, 101, 114]), .string (ByteArray.mk #[115, 111, 114, 116]), .string (ByteArray.mk #[117, 110, 105, 113]), .string (ByteArray.mk #[99, 111, 117, 110, 116]), .string (ByteArray.mk #[119, 114, 105, 116, 101]), .string (ByteArray.mk #[102, 97, 105, 108]), .string (ByteArray.mk #[114, 101, 112, 101, 97, 116]), .string (ByteArray.mk #[101, 97, 99, 104]), .string (ByteArray.mk #[119, 104, 101, 110])] h_1 0 fun h2 => ltC n1 0 (Q (.string (ByteArray.mk #[])) h2) (geC n1 13 (Q (.string (ByteArray.mk #[])) h2) (nIdx n1 13 fun m3 => rdK h2 i_2 (0 + m3 * 1) fun v4 => vStrE v4 fun s5 => Q (.string s5) h2))
  | _ => False
theorem k_ao : KE P d_ao f_ao 0 0 := by
  intro C D hC hD a h Q H
  unfold d_ao at H
  split at H
  · show EvQ P f_ao _ h Q
    refine r_ao ?_
    revert H
    repeat' with_reducible first
 | refine qac ?_
 | refine qah (by with_unfolding_all rfl) (by with_unfolding_all rfl) ?_
 | refine qai ?_
 | refine qam fun _ => ?_
 | refine qao fun _ => ?_
 | refine qaq fun _ => ?_
 | refine qat ?_ ?_
 | refine qaw ?_ ?_
 | refine qba fun _ => ?_
 | exact id
  · exact H.elim
noncomputable def e_ao : Ent P := ⟨f_ao, 0, 0, d_ao, k_ao⟩
noncomputable def d_d0 : BodyT := fun C D a h Q => match a with
  | [.pointer p1] => addKL h [.slice none 0 0] (.node .nil (some (.slice none 0 0)) .nil) 1 fun h_1 => addKL h_1 [.int .i64 0, .bool false, .slice none 0 0] (.node (.node .nil (some (.bool false)) .nil) (some (.int .i64 0)) (.node .nil (some (.slice none 0 0)) .nil)) 3 fun h_2 => nxK h_1 fun i_3 => wrLK i_3 [.int .i64 1, .bool false, .slice none 0 0] h_2 0 fun h2 => nxK h fun i_4 => D f_d0 5 7703029092353 [.pointer p1, .pointer (some ⟨i_4, 0, none⟩), .pointer (some ⟨i_3, 0, none⟩), .bool true, .func (Fn.func f_d5) (Array.mk []) (Array.mk [.pointer (some ⟨i_3, 0, none⟩), .pointer (some ⟨i_4, 0, none⟩)])] h2 Q
  | _ => False
theorem k_d0 : KE P d_d0 f_d0 0 0 := by
  intro C D hC hD a h Q H
  unfold d_d0 at H
  split at H
  · show EvQ P f_d0 _ h Q
    refine r_d0 ?_
    revert H
    repeat' with_reducible first
 | refine qag hD (by decide)
 | refine qah (by with_unfolding_all rfl) (by with_unfolding_all rfl) ?_
 | refine qai ?_
 | refine qao fun _ => ?_
 | exact id
  · exact H.elim
noncomputable def e_d0 : Ent P := ⟨f_d0, 0, 0, d_d0, k_d0⟩
noncomputable def d_d4 : BodyT := fun C D a h Q => match a with
  | [.pointer p1, .pointer (some ⟨m2, 0, none⟩), .pointer (some ⟨m3, 0, none⟩), .bool b4, .func (Fn.func 80) (Array.mk []) (Array.mk [.pointer (some ⟨m5, 0, none⟩), .pointer (some ⟨m6, 0, none⟩)])] => fN m2 fun m2 => fN m3 fun m3 => fB b4 fun b4 => fN m5 fun m5 => fN m6 fun m6 => C f_d8 [.pointer p1] h fun v7 h8 => vTupE v7 fun l9 => lCE l9 fun v10 l11 => vIntE' .u8 v10 fun n12 => lCE l11 fun v13 l14 => vIntE' .i64 v13 fun n15 => lNE l14 (eqC n15 0 (C f_d5 [.pointer (some ⟨m5, 0, none⟩), .pointer (some ⟨m6, 0, none⟩)] h8 fun v16 h17 => rdK h17 m2 0 fun v18 => vSlE v18 fun p19 m20 m21 => Q (.slice p19 m20 m21) h17) (aPE p1 fun m22 m23 => rdK h8 m22 (m23 + 1) fun v24 => vIntE' .i64 v24 fun n25 => aPE p1 fun m26 m27 => rdK h8 m26 (m27 + 2) fun v28 => vIntE' .i64 v28 fun n29 => aPE p1 fun m30 m31 => rdK h8 m30 (m31 + 3) fun v32 => vIntE' .i64 v32 fun n33 => addKL h8 [.string (ByteArray.mk #[]), .int .i64 0, .int .i64 0, .bool false, .bool false] (.node (.node (.node .nil (some (.bool false)) .nil) (some (.int .i64 0)) .nil) (some (.string (ByteArray.mk #[]))) (.node (.node .nil (some (.bool false)) .nil) (some (.int .i64 0)) .nil)) 5 fun h_1 => nxK h8 fun i_2 => wrLK i_2 [.string (ByteArray.mk #[]), .int .i64 n29, .int .i64 n33, .bool false, .bool false] h_1 0 fun h34 => rdK h_1 m26 (m27 + 2) fun v35 => vIntE' .i64 v35 fun n36 => bCE (sameB (.int .i64 n36) (.int .i64 n29)) (rdK h_1 m30 (m31 + 3) fun v37 => vIntE' .i64 v37 fun n38 => bCE (sameB (.int .i64 n38) (.int .i64 n33)) (C f_d6 [.pointer p1] h34 fun v39 h40 => eqC n12 10 (C f_d5 [.pointer (some ⟨m5, 0, none⟩), .pointer (some ⟨m6, 0, none⟩)] h40 fun v41 h42 => aPE p1 fun m43 m44 => rdK h42 m43 (m44 + 2) fun v45 => vIntE' .i64 v45 fun n46 => wrLK m3 [.int .i64 n46, .bool false, .slice none 0 0] h42 0 fun h47 => D f_d0 5 7703029092353 [.pointer p1, .pointer (some ⟨m2, 0, none⟩), .pointer (some ⟨m3, 0, none⟩), .bool true, .func (Fn.func f_d5) (Array.mk []) (Array.mk [.pointer (some ⟨m5, 0, none⟩), .pointer (some ⟨m6, 0, none⟩)])] h47 Q) (eqC n12 32 (D f_d0 5 7703029092353 [.pointer p1, .pointer (some ⟨m2, 0, none⟩), .pointer (some ⟨m3, 0, none⟩), .bool false, .func (Fn.func f_d5) (Array.mk []) (Array.mk [.pointer (some ⟨m5, 0, none⟩), .pointer (some ⟨m6, 0, none⟩)])] h40 Q) (eqC n12 9 (bCE b4 (wrK h40 m3 1 (.bool true) fun h48 => D f_d0 5 7703029092353 [.pointer p1, .pointer (some ⟨m2, 0, none⟩), .pointer (some ⟨m3, 0, none⟩), .bool false, .func (Fn.func f_d5) (Array.mk []) (Array.mk [.pointer (some ⟨m5, 0, none⟩), .pointer (some ⟨m6, 0, none⟩)])] h48 Q) (eqC n12 35 (C f_d8 [.pointer p1] h40 fun v49 h50 => vTupE v49 fun l51 => lCE l51 fun v52 l53 => vIntE' .u8 v52 fun n54 => lCE l53 fun v55 l56 => vIntE' .i64 v55 fun n57 => lNE l56 (D f_d0 23 16155545466313904129 [.pointer p1, .pointer (some ⟨m2, 0, none⟩), .pointer (some ⟨m3, 0, none⟩), .bool false, .func (Fn.func f_d5) (Array.mk []) (Array.mk [.pointer (some ⟨m5, 0, none⟩), .pointer (some ⟨m6, 0, none⟩)]), .int .u8 n54, .int .i64 n57] h50 Q)) (eqC n12 58 (D f_d0 30 12998046057839876640769 [.pointer p1, .pointer (some ⟨m2, 0, none⟩), .pointer (some ⟨m3, 0, none⟩), .bool false, .func (Fn.func f_d5) (Array.mk []) (Array.mk [.pointer (some ⟨m5, 0, none⟩), .pointer (some ⟨m6, 0, none⟩)]), .int .u8 n12, .int .i64 n25, .pointer (some ⟨i_2, 0, none⟩)] h40 Q) (eqC n12 61 (D f_d0 30 12998046057839876640769 [.pointer p1, .pointer (some ⟨m2, 0, none⟩), .pointer (some ⟨m3, 0, none⟩), .bool false, .func (Fn.func f_d5) (Array.mk []) (Array.mk [.pointer (some ⟨m5, 0, none⟩), .pointer (some ⟨m6, 0, none⟩)]), .int .u8 n12, .int .i64 n25, .pointer (some ⟨i_2, 0, none⟩)] h40 Q) (eqC n12 34 (D f_d0 30 12998046057839876640769 [.pointer p1, .pointer (some ⟨m2, 0, none⟩), .pointer (some ⟨m3, 0, none⟩), .bool false, .func (Fn.func f_d5) (Array.mk []) (Array.mk [.pointer (some ⟨m5, 0, none⟩), .pointer (some ⟨m6, 0, none⟩)]), .int .u8 n12, .int .i64 n25, .pointer (some ⟨i_2, 0, none⟩)] h40 Q) (C f_c4 [.int .u8 n12] h40 fun v58 h59 => vBoolE v58 fun b60 => bCE b60 (D f_d0 30 12998046057839876640769 [.pointer p1, .pointer (some ⟨m2, 0, none⟩), .pointer (some ⟨m3, 0, none⟩), .bool false, .func (Fn.func f_d5) (Array.mk []) (Array.mk [.pointer (some ⟨m5, 0, none⟩), .pointer (some ⟨m6, 0, none⟩)]), .int .u8 n12, .int .i64 n25, .pointer (some ⟨i_2, 0, none⟩)] h59 Q) (False))))))) (eqC n12 35 (C f_d8 [.pointer p1] h40 fun v61 h62 => vTupE v61 fun l63 => lCE l63 fun v64 l65 => vIntE' .u8 v64 fun n66 => lCE l65 fun v67 l68 => vIntE' .i64 v67 fun n69 => lNE l68 (D f_d0 23 16155545466313904129 [.pointer p1, .pointer (some ⟨m2, 0, none⟩), .pointer (some ⟨m3, 0, none⟩), .bool false, .func (Fn.func f_d5) (Array.mk []) (Array.mk [.pointer (some ⟨m5, 0, none⟩), .pointer (some ⟨m6, 0, none⟩)]), .int .u8 n66, .int .i64 n69] h62 Q)) (eqC n12 58 (D f_d0 30 12998046057839876640769 [.pointer p1, .pointer (some ⟨m2, 0, none⟩), .pointer (some ⟨m3, 0, none⟩), .bool false, .func (Fn.func f_d5) (Array.mk []) (Array.mk [.pointer (some ⟨m5, 0, none⟩), .pointer (some ⟨m6, 0, none⟩)]), .int .u8 n12, .int .i64 n25, .pointer (some ⟨i_2, 0, none⟩)] h40 Q) (eqC n12 61 (D f_d0 30 12998046057839876640769 [.pointer p1, .pointer (some ⟨m2, 0, none⟩), .pointer (some ⟨m3, 0, none⟩), .bool false, .func (Fn.func f_d5) (Array.mk []) (Array.mk [.pointer (some ⟨m5, 0, none⟩), .pointer (some ⟨m6, 0, none⟩)]), .int .u8 n12, .int .i64 n25, .pointer (some ⟨i_2, 0, none⟩)] h40 Q) (eqC n12 34 (D f_d0 30 12998046057839876640769 [.pointer p1, .pointer (some ⟨m2, 0, none⟩), .pointer (some ⟨m3, 0, none⟩), .bool false, .func (Fn.func f_d5) (Array.mk []) (Array.mk [.pointer (some ⟨m5, 0, none⟩), .pointer (some ⟨m6, 0, none⟩)]), .int .u8 n12, .int .i64 n25, .pointer (some ⟨i_2, 0, none⟩)] h40 Q) (C f_c4 [.int .u8 n12] h40 fun v70 h71 => vBoolE v70 fun b72 => bCE b72 (D f_d0 30 12998046057839876640769 [.pointer p1, .pointer (some ⟨m2, 0, none⟩), .pointer (some ⟨m3, 0, none⟩), .bool false, .func (Fn.func f_d5) (Array.mk []) (Array.mk [.pointer (some ⟨m5, 0, none⟩), .pointer (some ⟨m6, 0, none⟩)]), .int .u8 n12, .int .i64 n25, .pointer (some ⟨i_2, 0, none⟩)] h71 Q) (False))))))))) False) False))
  | _ => False
theorem k_d4 : KE P d_d4 f_d0 6 7703029092353 := by
  intro C D hC hD a h Q H
  unfold d_d4 at H
  split at H
  · show unitAt P f_d0 5 (decL 7703029092353) _ h Q
    rw [show decL 7703029092353 = [0, 3, 4, 5, 6] from by decide]
    refine r_d4 ?_
    revert H
    repeat' with_reducible first
 | refine qad ?_
 | refine qae ?_
 | refine qaf hC fun _ _ => ?_
 | refine qag hD (by decide)
 | refine qah (by with_unfolding_all rfl) (by with_unfolding_all rfl) ?_
 | refine qai ?_
 | refine qam fun _ => ?_
 | refine qan fun _ => ?_
 | refine qao fun _ => ?_
 | refine qas fun _ => ?_
 | refine qax ?_ ?_
 | refine qbb fun _ _ _ => ?_
 | refine qbc fun _ => ?_
 | refine qbd fun _ _ => ?_
 | refine qbe ?_
 | refine qbf fun _ => ?_
 | refine qbh fun _ _ => ?_
 | refine qbo ?_
 | refine qbp ?_
 | refine qbq ?_ ?_
 | exact id
  · exact H.elim
noncomputable def e_d4 : Ent P := ⟨f_d0, 6, 7703029092353, d_d4, k_d4⟩
end
end Go.Proofs.YtamoepfiodgbbaaGreatDoor.E
end
