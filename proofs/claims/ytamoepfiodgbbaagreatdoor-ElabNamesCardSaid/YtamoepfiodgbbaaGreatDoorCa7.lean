/- A deterministic heap for the model, proved sound, and walks of the program over it: part 12. No condition. -/
import Derived.Test.YtamoepfiodgbbaaGreatDoorCa6
set_option linter.unusedVariables false
set_option linter.unusedSimpArgs false
set_option linter.unusedSectionVars false
section
/- Bodies that the kernel can run, printed by a program of ours. -/
namespace Go.Proofs.YtamoepfiodgbbaaGreatDoor.E
open Go.Abs
set_option maxRecDepth 100000
set_option maxHeartbeats 4000000
section
noncomputable def d_d5 : BodyT := fun C D a h Q => match a with
  | [.pointer (some ⟨m1, m2, none⟩), .pointer (some ⟨m3, m4, none⟩)] => fN m1 fun m1 => fN m2 fun m2 => fN m3 fun m3 => fN m4 fun m4 => rdK h m1 (m2 + 2) fun v5 => vSlE v5 fun p6 m7 m8 => gtC (↑m7 : Int) 0 (rdK h m3 m4 fun v9 => vSlE v9 fun p10 m11 m12 => rdK h m1 m2 fun v13 => vIntE' .i64 v13 fun n14 => rdK h m1 (m2 + 1) fun v15 => vBoolE v15 fun b16 => rdK h m1 (m2 + 1 + 1) fun v17 => vSlE v17 fun p18 m19 m20 => addKL h [.int .i64 n14, .bool b16, .slice p18 m19 m20] (.node (.node .nil (some (.bool b16)) .nil) (some (.int .i64 n14)) (.node .nil (some (.slice p18 m19 m20)) .nil)) 3 fun h_1 => nxK h fun i_2 => apK ty_api_Line 3 40 h_1 (.slice p10 m11 m12) (.slice (some ⟨i_2, 0, none⟩) 1 1) fun v21 h22 => vSlE v21 fun p23 m24 m25 => wrK h22 m3 m4 (.slice p23 m24 m25) fun h26 => Q (.tuple (Array.mk [])) h26) (Q (.tuple (Array.mk [])) h)
  | _ => False
theorem k_d5 : KE P d_d5 f_d5 0 0 := by
  intro C D hC hD a h Q H
  unfold d_d5 at H
  split at H
  · show EvQ P f_d5 _ h Q
    refine r_d5 ?_
    revert H
    repeat' with_reducible first
 | refine qbr ti_ty_sl_api_Line rfl ti_ty_api_Line rfl rfl rfl ti_ty_sl_api_Line rfl fun _ _ => ?_
 | refine qad ?_
 | refine qah (by with_unfolding_all rfl) (by with_unfolding_all rfl) ?_
 | refine qai ?_
 | refine qam fun _ => ?_
 | refine qan fun _ => ?_
 | refine qas fun _ => ?_
 | refine qav ?_ ?_
 | refine qbb fun _ _ _ => ?_
 | refine qbc fun _ => ?_
 | exact id
  · exact H.elim
noncomputable def e_d5 : Ent P := ⟨f_d5, 0, 0, d_d5, k_d5⟩
noncomputable def d_ad : BodyT := fun C D a h Q => match a with
  | [.int .i64 n1, .int .i64 n2] => fI n1 fun n1 => fI n2 fun n2 => eqC n1 1 (Q (.bool (n2 == 1)) h) (eqC n1 2 (Q (.bool (n2 == 1)) h) (eqC n1 8 (Q (.bool (n2 == 1)) h) (eqC n1 11 (Q (.bool (n2 == 1)) h) (D f_ad 7 6146 [.int .i64 n2, .int .i64 n1] h Q))))
  | _ => False
theorem k_ad : KE P d_ad f_ad 0 0 := by
  intro C D hC hD a h Q H
  unfold d_ad at H
  split at H
  · show EvQ P f_ad _ h Q
    refine r_ad ?_
    revert H
    repeat' with_reducible first
 | refine qac ?_
 | refine qag hD (by decide)
 | refine qax ?_ ?_
 | exact id
  · exact H.elim
noncomputable def e_ad : Ent P := ⟨f_ad, 0, 0, d_ad, k_ad⟩
noncomputable def d_ae : BodyT := fun C D a h Q => match a with
  | [.int .i64 n1, .int .i64 n2] => fI n1 fun n1 => fI n2 fun n2 => eqC n2 3 (Q (.bool true) h) (eqC n2 9 (Q (.bool true) h) (D f_ad 10 6146 [.int .i64 n1, .int .i64 n2] h Q))
  | _ => False
theorem k_ae : KE P d_ae f_ad 8 6146 := by
  intro C D hC hD a h Q H
  unfold d_ae at H
  split at H
  · show unitAt P f_ad 7 (decL 6146) _ h Q
    rw [show decL 6146 = [1, 5] from by decide]
    refine r_ae ?_
    revert H
    repeat' with_reducible first
 | refine qac ?_
 | refine qag hD (by decide)
 | refine qax ?_ ?_
 | exact id
  · exact H.elim
noncomputable def e_ae : Ent P := ⟨f_ad, 8, 6146, d_ae, k_ae⟩
noncomputable def d_f7 : BodyT := fun C D a h Q => match a with
  | [.string s1, .string s2] => C f_fu [.string s1, .string s2] h fun v3 h4 => vBoolE v3 fun b5 => Q (.bool b5) h4
  | _ => False
theorem k_f7 : KE P d_f7 f_f7 0 0 := by
  intro C D hC hD a h Q H
  unfold d_f7 at H
  split at H
  · show EvQ P f_f7 _ h Q
    refine r_f7 ?_
    revert H
    repeat' with_reducible first
 | refine qaf hC fun _ _ => ?_
 | refine qbc fun _ => ?_
 | exact id
  · exact H.elim
noncomputable def e_f7 : Ent P := ⟨f_f7, 0, 0, d_f7, k_f7⟩
noncomputable def d_fw : BodyT := fun C D a h Q => match a with
  | [.string s1, .int .u8 n2] => fI n2 fun n2 => C f_bb [.string s1, .int .u8 n2] h fun v3 h4 => vIntE' .i64 v3 fun n5 => Q (.int .i64 n5) h4
  | _ => False
theorem k_fw : KE P d_fw f_fw 0 0 := by
  intro C D hC hD a h Q H
  unfold d_fw at H
  split at H
  · show EvQ P f_fw _ h Q
    refine r_fw ?_
    revert H
    repeat' with_reducible first
 | refine qac ?_
 | refine qaf hC fun _ _ => ?_
 | refine qas fun _ => ?_
 | exact id
  · exact H.elim
noncomputable def e_fw : Ent P := ⟨f_fw, 0, 0, d_fw, k_fw⟩
noncomputable def d_b1 : BodyT := fun C D a h Q => match a with
  | [.int .i64 n1] => fI n1 fun n1 => nxK h fun i_1 => addKL h [.int .i64 0, .string (ByteArray.mk #[]), .int .i64 0, .int .i64 0] (.node (.node (.node .nil (some (.int .i64 0)) .nil) (some (.string (ByteArray.mk #[]))) .nil) (some (.int .i64 0)) (.node .nil (some (.int .i64 0)) .nil)) 4 fun h_2 => D f_b1 3 5372906497 [.int .i64 n1, .pointer (some ⟨i_1, 0, none⟩), .slice none 0 0, .int .i64 0] h_2 Q
  | _ => False
theorem k_b1 : KO P d_b1 f_b1 := by
  intro C D hC hD a h Q H
  unfold d_b1 at H
  split at H
  · show RunOwn P f_b1 _ h Q
    refine r_b1 ?_
    revert H
    repeat' with_reducible first
 | refine qac ?_
 | refine qag hD (by decide)
 | refine qah (by with_unfolding_all rfl) (by with_unfolding_all rfl) ?_
 | refine qai ?_
 | exact id
  · exact H.elim
noncomputable def e_b1 : Ent P := ⟨f_b1, 0, 0, dOwn 8 d_b1, fun _ _ hC hD => own_ent (by kernel_rfl) (k_b1 _ _ hC hD)⟩
noncomputable def d_b2 : BodyT := fun C D a h Q => match a with
  | [.int .i64 n1, .pointer (some ⟨m2, 0, none⟩), .slice p3 m4 m5, .int .i64 n6] => fI n1 fun n1 => fN m2 fun m2 => fN m4 fun m4 => fN m5 fun m5 => fI n6 fun n6 => leC n6 n1 (ltC n6 n1 (addKL h [.int .u8 (wU8 (wI64 (addI (wI64 (addI 97 n6)) 1)))] (.node .nil (some (.int .u8 (wU8 (wI64 (addI (wI64 (addI 97 n6)) 1))))) .nil) 1 fun h_1 => nxK h fun i_2 => oQ (AW.bytes h_1 (some ⟨i_2, 0, none⟩) 1) fun s7 => bCE (Nat.ble (9 + szE s7) 9223372036854775807) (bCE (Nat.ble (szE (ByteArray.mk #[105, 110, 99, 108, 117, 100, 101, 32, 102] ++ s7) + 1) 9223372036854775807) (D f_b1 8 6602442673153 [.int .i64 n1, .pointer (some ⟨m2, 0, none⟩), .slice p3 m4 m5, .int .i64 n6, .string (ByteArray.mk #[105, 110, 99, 108, 117, 100, 101, 32, 102] ++ s7 ++ ByteArray.mk #[10])] h_1 Q) (False)) (False)) (D f_b1 8 6602442673153 [.int .i64 n1, .pointer (some ⟨m2, 0, none⟩), .slice p3 m4 m5, .int .i64 n6, .string (ByteArray.mk #[])] h Q)) (C f_b4 [.slice p3 m4 m5] h fun v8 h9 => C f_bn [v8, .string (ByteArray.mk #[102, 97])] h9 fun v10 h11 => vTupE v10 fun l12 => lCE l12 fun v13 l14 => vPtrE v13 fun p15 => lCE l14 fun v16 l17 => vAggE v16 fun l18 => lCE l18 fun v19 l20 => vIntE' .i64 v19 fun n21 => lCE l20 fun v22 l23 => vStrE v22 fun s24 => lCE l23 fun v25 l26 => vIntE' .i64 v25 fun n27 => lCE l26 fun v28 l29 => vIntE' .i64 v28 fun n30 => lNE l29 (lNE l17 (addKL h11 [.int .i64 0, .string (ByteArray.mk #[]), .int .i64 0, .int .i64 0] (.node (.node (.node .nil (some (.int .i64 0)) .nil) (some (.string (ByteArray.mk #[]))) .nil) (some (.int .i64 0)) (.node .nil (some (.int .i64 0)) .nil)) 4 fun h_3 => nxK h11 fun i_4 => wrLK i_4 [.int .i64 n21, .string s24, .int .i64 n27, .int .i64 n30] h_3 0 fun h31 => rdK h31 i_4 0 fun v32 => vIntE' .i64 v32 fun n33 => rdK h31 i_4 1 fun v34 => vStrE v34 fun s35 => rdK h31 i_4 2 fun v36 => vIntE' .i64 v36 fun n37 => rdK h31 i_4 3 fun v38 => vIntE' .i64 v38 fun n39 => wrLK m2 [.int .i64 n33, .string s35, .int .i64 n37, .int .i64 n39] h31 0 fun h40 => rdK h40 m2 0 fun v41 => vIntE' .i64 v41 fun n42 => rdK h40 m2 1 fun v43 => vStrE v43 fun s44 => rdK h40 m2 2 fun v45 => vIntE' .i64 v45 fun n46 => rdK h40 m2 3 fun v47 => vIntE' .i64 v47 fun n48 => Q (.agg (Array.mk [.int .i64 n42, .string s44, .int .i64 n46, .int .i64 n48])) h40)))
  | _ => False
theorem k_b2 : KE P d_b2 f_b1 4 5372906497 := by
  intro C D hC hD a h Q H
  unfold d_b2 at H
  split at H
  · show unitAt P f_b1 3 (decL 5372906497) _ h Q
    rw [show decL 5372906497 = [0, 2, 3, 4] from by decide]
    refine r_b2 ?_
    simp only [wI64_eq, wU8_eq, addI_eq, szE_eq] at H
    revert H
    repeat' with_reducible first
 | refine qac ?_
 | refine qad ?_
 | refine qaf hC fun _ _ => ?_
 | refine qag hD (by decide)
 | refine qah (by with_unfolding_all rfl) (by with_unfolding_all rfl) ?_
 | refine qai ?_
 | refine qam fun _ => ?_
 | refine qao fun _ => ?_
 | refine qas fun _ => ?_
 | refine qat ?_ ?_
 | refine qau ?_ ?_
 | refine qba fun _ => ?_
 | refine qbd fun _ _ => ?_
 | refine qbe ?_
 | refine qbf fun _ => ?_
 | refine qbi fun _ => ?_
 | refine qbk fun _ => ?_
 | refine qbn fun _ => ?_
 | refine qbo ?_
 | refine qbp ?_
 | refine qbq ?_ ?_
 | exact id
  · exact H.elim
noncomputable def e_b2 : Ent P := ⟨f_b1, 4, 5372906497, d_b2, k_b2⟩
noncomputable def d_b3 : BodyT := fun C D a h Q => match a with
  | [.int .i64 n1, .pointer (some ⟨m2, 0, none⟩), .slice p3 m4 m5, .int .i64 n6, .string s7] => fI n1 fun n1 => fN m2 fun m2 => fN m4 fun m4 => fN m5 fun m5 => fI n6 fun n6 => addKL h [.int .u8 (wU8 (wI64 (addI 97 n6)))] (.node .nil (some (.int .u8 (wU8 (wI64 (addI 97 n6))))) .nil) 1 fun h_1 => nxK h fun i_2 => oQ (AW.bytes h_1 (some ⟨i_2, 0, none⟩) 1) fun s8 => bCE (Nat.ble (1 + szE s8) 9223372036854775807) (addKL h_1 [.string (ByteArray.mk #[102] ++ s8), .string s7] (.node (.node .nil (some (.string s7)) .nil) (some (.string (ByteArray.mk #[102] ++ s8))) .nil) 2 fun h_3 => nxK h_1 fun i_4 => apK ty_brickyardref15_File 2 32 h_3 (.slice p3 m4 m5) (.slice (some ⟨i_4, 0, none⟩) 1 1) fun v9 h10 => vSlE v9 fun p11 m12 m13 => D f_b1 3 5372906497 [.int .i64 n1, .pointer (some ⟨m2, 0, none⟩), .slice p11 m12 m13, .int .i64 (wI64 (addI n6 1))] h10 Q) (False)
  | _ => False
theorem k_b3 : KE P d_b3 f_b1 9 6602442673153 := by
  intro C D hC hD a h Q H
  unfold d_b3 at H
  split at H
  · show unitAt P f_b1 8 (decL 6602442673153) _ h Q
    rw [show decL 6602442673153 = [0, 2, 3, 4, 5] from by decide]
    refine r_b3 ?_
    simp only [wI64_eq, wU8_eq, addI_eq, szE_eq] at H
    revert H
    repeat' with_reducible first
 | refine qbr ti_ty_sl_brickyardref15_File rfl ti_ty_brickyardref15_File rfl rfl rfl ti_ty_sl_brickyardref15_File rfl fun _ _ => ?_
 | refine qac ?_
 | refine qad ?_
 | refine qag hD (by decide)
 | refine qah (by with_unfolding_all rfl) (by with_unfolding_all rfl) ?_
 | refine qai ?_
 | refine qbb fun _ _ _ => ?_
 | refine qbn fun _ => ?_
 | refine qbo ?_
 | refine qbp ?_
 | refine qbq ?_ ?_
 | exact id
  · exact H.elim
noncomputable def e_b3 : Ent P := ⟨f_b1, 9, 6602442673153, d_b3, k_b3⟩
noncomputable def d_e7 : BodyT := fun C D a h Q => match a with
  | [.slice p1 m2 m3, .string s4] => fN m2 fun m2 => fN m3 fun m3 => C f_ea [.slice p1 m2 m3, .string s4] h fun v5 h6 => vIntE' .i64 v5 fun n7 => Q (.bool (decide (n7 ≥ 0))) h6
  | _ => False
theorem k_e7 : KE P d_e7 f_e7 0 0 := by
  intro C D hC hD a h Q H
  unfold d_e7 at H
  split at H
  · show EvQ P f_e7 _ h Q
    refine r_e7 ?_
    revert H
    repeat' with_reducible first
 | refine qad ?_
 | refine qaf hC fun _ _ => ?_
 | refine qas fun _ => ?_
 | exact id
  · exact H.elim
noncomputable def e_e7 : Ent P := ⟨f_e7, 0, 0, d_e7, k_e7⟩
noncomputable def d_d8 : BodyT := fun C D a h Q => match a with
  | [.pointer p1] => aPE p1 fun m2 m3 => rdK h m2 (m3 + 1) fun v4 => vIntE' .i64 v4 fun n5 => aPE p1 fun m6 m7 => rdK h m6 m7 fun v8 => vStrE v8 fun s9 => eqC n5 (↑(szE s9) : Int) (Q (.tuple (Array.mk [.int .u8 0, .int .i64 0])) h) (aPE p1 fun m10 m11 => rdK h m10 m11 fun v12 => vStrE v12 fun s13 => aPE p1 fun m14 m15 => rdK h m14 (m15 + 1) fun v16 => vIntE' .i64 v16 fun n17 => nBnd n17 (szE s13) fun m18 => subK s13 m18 (szE s13) fun s_1 => C f_f6 [.string s_1, .string (ByteArray.mk #[92, 10])] h fun v19 h20 => vBoolE v19 fun b21 => bCE b21 (Q (.tuple (Array.mk [.int .u8 32, .int .i64 2])) h20) (aPE p1 fun m22 m23 => rdK h20 m22 m23 fun v24 => vStrE v24 fun s25 => aPE p1 fun m26 m27 => rdK h20 m26 (m27 + 1) fun v28 => vIntE' .i64 v28 fun n29 => nIdx n29 (szE s25) fun m30 => bAtK s25 m30 fun n31 => Q (.tuple (Array.mk [.int .u8 n31, .int .i64 1])) h20))
  | _ => False
noncomputable def d_aj : BodyT := fun C D a h Q => match a with
  | [.int .i64 n1] => fI n1 fun n1 => geC n1 10 (Q (.bool (decide (n1 ≤ 12))) h) (Q (.bool false) h)
  | _ => False
theorem k_aj : KE P d_aj f_aj 0 0 := by
  intro C D hC hD a h Q H
  unfold d_aj at H
  split at H
  · show EvQ P f_aj _ h Q
    refine r_aj ?_
    revert H
    repeat' with_reducible first
 | refine qac ?_
 | refine qaw ?_ ?_
 | exact id
  · exact H.elim
noncomputable def e_aj : Ent P := ⟨f_aj, 0, 0, d_aj, k_aj⟩
noncomputable def d_fh : BodyT := fun C D a h Q => match a with
  | [.string s1, .string s2, .string s3] => C f_fg [.string s1, .string s2, .string s3, .int .i64 (Int.negSucc 0)] h fun v4 h5 => vStrE v4 fun s6 => Q (.string s6) h5
  | _ => False
theorem k_fh : KE P d_fh f_fh 0 0 := by
  intro C D hC hD a h Q H
  unfold d_fh at H
  split at H
  · show EvQ P f_fh _ h Q
    refine r_fh ?_
    revert H
    repeat' with_reducible first
 | refine qaf hC fun _ _ => ?_
 | refine qba fun _ => ?_
 | exact id
  · exact H.elim
noncomputable def e_fh : Ent P := ⟨f_fh, 0, 0, d_fh, k_fh⟩
noncomputable def d_fu : BodyT := fun C D a h Q => match a with
  | [.string s1, .string s2] => geC (↑(szE s1) : Int) (↑(szE s2) : Int) (nBnd (wI64 (subI (↑(szE s1) : Int) (↑(szE s2) : Int))) (szE s1) fun m3 => subK s1 m3 (szE s1) fun s_1 => Q (.bool (bEq s_1 s2)) h) (Q (.bool false) h)
  | _ => False
theorem k_fu : KE P d_fu f_fu 0 0 := by
  intro C D hC hD a h Q H
  unfold d_fu at H
  split at H
  · show EvQ P f_fu _ h Q
    refine r_fu ?_
    simp only [wI64_eq, subI_eq, szE_eq] at H
    revert H
    repeat' with_reducible first
 | refine qaj ?_
 | refine qar fun _ => ?_
 | refine qaw ?_ ?_
 | exact id
  · exact H.elim
noncomputable def e_fu : Ent P := ⟨f_fu, 0, 0, d_fu, k_fu⟩
noncomputable def d_cc : BodyT := fun C D a h Q => match a with
  | [.pointer p1, .string s2] => bCE (Option.isNone p1) (addKL h [.string (ByteArray.mk #[]), .slice none 0 0, .slice none 0 0, .slice none 0 0] (.node (.node (.node .nil (some (.slice none 0 0)) .nil) (some (.slice none 0 0)) .nil) (some (.string (ByteArray.mk #[]))) (.node .nil (some (.slice none 0 0)) .nil)) 4 fun h_1 => nxK h fun i_2 => wrLK i_2 [.string (ByteArray.mk #[]), .slice none 0 0, .slice none 0 0, .slice none 0 0] h_1 0 fun h3 => rdK h3 i_2 0 fun v4 => vStrE v4 fun s5 => rdK h3 i_2 1 fun v6 => vSlE v6 fun p7 m8 m9 => rdK h3 i_2 2 fun v10 => vSlE v10 fun p11 m12 m13 => rdK h3 i_2 3 fun v14 => vSlE v14 fun p15 m16 m17 => Q (.tuple (Array.mk [.agg (Array.mk [.string s5, .slice p7 m8 m9, .slice p11 m12 m13, .slice p15 m16 m17]), .bool false])) h3) (addKL h [.string (ByteArray.mk #[]), .slice none 0 0, .slice none 0 0, .slice none 0 0] (.node (.node (.node .nil (some (.slice none 0 0)) .nil) (some (.slice none 0 0)) .nil) (some (.string (ByteArray.mk #[]))) (.node .nil (some (.slice none 0 0)) .nil)) 4 fun h_3 => C f_dl [.string s2] h_3 fun v18 h19 => vBoolE v18 fun b20 => bCE (!b20) (nxK h fun i_4 => wrLK i_4 [.string (ByteArray.mk #[]), .slice none 0 0, .slice none 0 0, .slice none 0 0] h19 0 fun h21 => rdK h21 i_4 0 fun v22 => vStrE v22 fun s23 => rdK h21 i_4 1 fun v24 => vSlE v24 fun p25 m26 m27 => rdK h21 i_4 2 fun v28 => vSlE v28 fun p29 m30 m31 => rdK h21 i_4 3 fun v32 => vSlE v32 fun p33 m34 m35 => Q (.tuple (Array.mk [.agg (Array.mk [.string s23, .slice p25 m26 m27, .slice p29 m30 m31, .slice p33 m34 m35]), .bool false])) h21) (aPE p1 fun m36 m37 => rdK h19 m36 (m37 + 1) fun v38 => vMapE v38 fun p39 => mlK h19 p39 fun l40 => lkS s2 (fun p41 => vStrE (Option.getD p41 (.string (ByteArray.mk #[]))) fun s42 => bCE (Option.isSome p41) (aPE p1 fun m43 m44 => rdK h19 m43 m44 fun v45 => vMapE v45 fun p46 => mlK h19 p46 fun l47 => lkS s42 (fun p48 => vAggE (Option.getD p48 (.agg (Array.mk [.string (ByteArray.mk #[]), .slice none 0 0, .slice none 0 0, .slice none 0 0]))) fun l49 => lCE l49 fun v50 l51 => vStrE v50 fun s52 => lCE l51 fun v53 l54 => vSlE v53 fun p55 m56 m57 => lCE l54 fun v58 l59 => vSlE v58 fun p60 m61 m62 => lCE l59 fun v63 l64 => vSlE v63 fun p65 m66 m67 => lNE l64 (C f_bq [.agg (Array.mk [.string s52, .slice p55 m56 m57, .slice p60 m61 m62, .slice p65 m66 m67])] h19 fun v68 h69 => vAggE v68 fun l70 => lCE l70 fun v71 l72 => vStrE v71 fun s73 => lCE l72 fun v74 l75 => vSlE v74 fun p76 m77 m78 => lCE l75 fun v79 l80 => vSlE v79 fun p81 m82 m83 => lCE l80 fun v84 l85 => vSlE v84 fun p86 m87 m88 => lNE l85 (nxK h fun i_5 => wrLK i_5 [.string s73, .slice p76 m77 m78, .slice p81 m82 m83, .slice p86 m87 m88] h69 0 fun h89 => rdK h89 i_5 0 fun v90 => vStrE v90 fun s91 => rdK h89 i_5 1 fun v92 => vSlE v92 fun p93 m94 m95 => rdK h89 i_5 2 fun v96 => vSlE v96 fun p97 m98 m99 => rdK h89 i_5 3 fun v100 => vSlE v100 fun p101 m102 m103 => Q (.tuple (Array.mk [.agg (Array.mk [.string s91, .slice p93 m94 m95, .slice p97 m98 m99, .slice p101 m102 m103]), .bool true])) h89))) l47) (aPE p1 fun m104 m105 => rdK h19 m104 (m105 + 2) fun v106 => vSlE v106 fun p107 m108 m109 => nxK h fun i_6 => D f_cc 7 47324140147714 [.string s2, .pointer (some ⟨i_6, 0, none⟩), .slice p107 m108 m109, .int .i64 (↑m108 : Int), .int .i64 0] h19 Q)) l40))
  | _ => False
theorem k_cc : KE P d_cc f_cc 0 0 := by
  intro C D hC hD a h Q H
  unfold d_cc at H
  split at H
  · show EvQ P f_cc _ h Q
    refine r_cc ?_
    revert H
    repeat' with_reducible first
 | refine qaa fun _ => ?_
 | refine qab fun _ => ?_
 | refine qaf hC fun _ _ => ?_
 | refine qag hD (by decide)
 | refine qah (by with_unfolding_all rfl) (by with_unfolding_all rfl) ?_
 | refine qai ?_
 | refine qam fun _ => ?_
 | refine qao fun _ => ?_
 | refine qba fun _ => ?_
 | refine qbb fun _ _ _ => ?_
 | refine qbc fun _ => ?_
 | refine qbd fun _ _ => ?_
 | refine qbe ?_
 | refine qbh fun _ _ => ?_
 | refine qbk fun _ => ?_
 | refine qbl fun _ => ?_
 | refine qbo ?_
 | refine qbp ?_
 | refine qbq ?_ ?_
 | exact id
  · exact H.elim
noncomputable def e_cc : Ent P := ⟨f_cc, 0, 0, d_cc, k_cc⟩
noncomputable def d_cd : BodyT := fun C D a h Q => match a with
  | [.string s1, .pointer (some ⟨m2, 0, none⟩), .slice p3 m4 m5, .int .i64 n6, .int .i64 n7] => fN m2 fun m2 => fN m4 fun m4 => fN m5 fun m5 => fI n6 fun n6 => fI n7 fun n7 => ltC n7 n6 (aPE p3 fun m8 m9 => nIdx n7 m4 fun m10 => rdK h m8 (m9 + m10 * 3) fun v11 => vStrE v11 fun s12 => rdK h m8 (m9 + m10 * 3 + 1) fun v13 => vSlE v13 fun p14 m15 m16 => rdK h m8 (m9 + m10 * 3 + 1 + 1) fun v17 => vSlE v17 fun p18 m19 m20 => addKL h [.string (ByteArray.mk #[]), .slice none 0 0, .slice none 0 0] (.node (.node .nil (some (.slice none 0 0)) .nil) (some (.string (ByteArray.mk #[]))) (.node .nil (some (.slice none 0 0)) .nil)) 3 fun h_1 => nxK h fun i_2 => wrLK i_2 [.string s12, .slice p14 m15 m16, .slice p18 m19 m20] h_1 0 fun h21 => rdK h21 i_2 0 fun v22 => vStrE v22 fun s23 => rdK h21 i_2 1 fun v24 => vSlE v24 fun p25 m26 m27 => rdK h21 i_2 2 fun v28 => vSlE v28 fun p29 m30 m31 => C f_br [.agg (Array.mk [.string s23, .slice p25 m26 m27, .slice p29 m30 m31]), .string s1] h21 fun v32 h33 => vTupE v32 fun l34 => lCE l34 fun v35 l36 => vAggE v35 fun l37 => lCE l37 fun v38 l39 => vStrE v38 fun s40 => lCE l39 fun v41 l42 => vSlE v41 fun p43 m44 m45 => lCE l42 fun v46 l47 => vSlE v46 fun p48 m49 m50 => lCE l47 fun v51 l52 => vSlE v51 fun p53 m54 m55 => lNE l52 (lCE l36 fun v56 l57 => vBoolE v56 fun b58 => lNE l57 (addKL h33 [.string (ByteArray.mk #[]), .slice none 0 0, .slice none 0 0, .slice none 0 0] (.node (.node (.node .nil (some (.slice none 0 0)) .nil) (some (.slice none 0 0)) .nil) (some (.string (ByteArray.mk #[]))) (.node .nil (some (.slice none 0 0)) .nil)) 4 fun h_3 => nxK h33 fun i_4 => wrLK i_4 [.string s40, .slice p43 m44 m45, .slice p48 m49 m50, .slice p53 m54 m55] h_3 0 fun h59 => bCE b58 (rdK h59 i_4 0 fun v60 => vStrE v60 fun s61 => rdK h59 i_4 1 fun v62 => vSlE v62 fun p63 m64 m65 => rdK h59 i_4 2 fun v66 => vSlE v66 fun p67 m68 m69 => rdK h59 i_4 3 fun v70 => vSlE v70 fun p71 m72 m73 => wrLK m2 [.string s61, .slice p63 m64 m65, .slice p67 m68 m69, .slice p71 m72 m73] h59 0 fun h74 => rdK h74 m2 0 fun v75 => vStrE v75 fun s76 => rdK h74 m2 1 fun v77 => vSlE v77 fun p78 m79 m80 => rdK h74 m2 2 fun v81 => vSlE v81 fun p82 m83 m84 => rdK h74 m2 3 fun v85 => vSlE v85 fun p86 m87 m88 => Q (.tuple (Array.mk [.agg (Array.mk [.string s76, .slice p78 m79 m80, .slice p82 m83 m84, .slice p86 m87 m88]), .bool true])) h74) (D f_cc 7 47324140147714 [.string s1, .pointer (some ⟨m2, 0, none⟩), .slice p3 m4 m5, .int .i64 n6, .int .i64 (wI64 (addI n7 1))] h59 Q)))) (wrLK m2 [.string (ByteArray.mk #[]), .slice none 0 0, .slice none 0 0, .slice none 0 0] h 0 fun h89 => rdK h89 m2 0 fun v90 => vStrE v90 fun s91 => rdK h89 m2 1 fun v92 => vSlE v92 fun p93 m94 m95 => rdK h89 m2 2 fun v96 => vSlE v96 fun p97 m98 m99 => rdK h89 m2 3 fun v100 => vSlE v100 fun p101 m102 m103 => Q (.tuple (Array.mk [.agg (Array.mk [.string s91, .slice p93 m94 m95, .slice p97 m98 m99, .slice p101 m102 m103]), .bool false])) h89)
  | _ => False
theorem k_cd : KE P d_cd f_cc 8 47324140147714 := by
  intro C D hC hD a h Q H
  unfold d_cd at H
  split at H
  · show unitAt P f_cc 7 (decL 47324140147714) _ h Q
    rw [show decL 47324140147714 = [1, 4, 40, 41, 42] from by decide]
    refine r_cd ?_
    simp only [wI64_eq, addI_eq] at H
    revert H
    repeat' with_reducible first
 | refine qac ?_
 | refine qad ?_
 | refine qaf hC fun _ _ => ?_
 | refine qag hD (by decide)
 | refine qah (by with_unfolding_all rfl) (by with_unfolding_all rfl) ?_
 | refine qai ?_
 | refine qam fun _ => ?_
 | refine qao fun _ => ?_
 | refine qaq fun _ => ?_
 | refine qat ?_ ?_
 | refine qba fun _ => ?_
 | refine qbb fun _ _ _ => ?_
 | refine qbc fun _ => ?_
 | refine qbd fun _ _ => ?_
 | refine qbe ?_
 | refine qbf fun _ => ?_
 | refine qbh fun _ _ => ?_
 | refine qbk fun _ => ?_
 | refine qbo ?_
 | refine qbp ?_
 | refine qbq ?_ ?_
 | exact id
  · exact H.elim
noncomputable def e_cd : Ent P := ⟨f_cc, 8, 47324140147714, d_cd, k_cd⟩
noncomputable def d_dy : BodyT := fun C D a h Q => match a with
  | [.agg (Array.mk [.int .i64 n1, .bool b2, .slice p3 m4 m5])] => fI n1 fun n1 => fB b2 fun b2 => fN m4 fun m4 => fN m5 fun m5 => addKL h [.int .i64 n1, .bool b2, .slice p3 m4 m5] (.node (.node .nil (some (.bool b2)) .nil) (some (.int .i64 n1)) (.node .nil (some (.slice p3 m4 m5)) .nil)) 3 fun h_1 => addKL h_1 [.int .i64 0, .int .i64 0, .string (ByteArray.mk #[]), .slice none 0 0, .slice none 0 0, .slice none 0 0] (.node (.node (.node .nil (some (.slice none 0 0)) .nil) (some (.int .i64 0)) (.node .nil (some (.slice none 0 0)) .nil)) (some (.int .i64 0)) (.node (.node .nil (some (.slice none 0 0)) .nil) (some (.string (ByteArray.mk #[]))) .nil)) 6 fun h_2 => addKL h_2 [.int .i64 0, .string (ByteArray.mk #[]), .int .i64 0, .int .i64 0] (.node (.node (.node .nil (some (.int .i64 0)) .nil) (some (.string (ByteArray.mk #[]))) .nil) (some (.int .i64 0)) (.node .nil (some (.int .i64 0)) .nil)) 4 fun h_3 => nxK h fun i_4 => rdK h_3 i_4 2 fun v6 => vSlE v6 fun p7 m8 m9 => aPE p7 fun m10 m11 => nIdx (wI64 (subI (↑m8 : Int) 1)) m8 fun m12 => rdK h_3 m10 (m11 + m12 * 5) fun v13 => vStrE v13 fun s14 => rdK h_3 m10 (m11 + m12 * 5 + 1) fun v15 => vIntE' .i64 v15 fun n16 => rdK h_3 m10 (m11 + m12 * 5 + 1 + 1) fun v17 => vIntE' .i64 v17 fun n18 => rdK h_3 m10 (m11 + m12 * 5 + 1 + 1 + 1) fun v19 => vBoolE v19 fun b20 => rdK h_3 m10 (m11 + m12 * 5 + 1 + 1 + 1 + 1) fun v21 => vBoolE v21 fun b22 => addKL h_3 [.string (ByteArray.mk #[]), .int .i64 0, .int .i64 0, .bool false, .bool false] (.node (.node (.node .nil (some (.bool false)) .nil) (some (.int .i64 0)) .nil) (some (.string (ByteArray.mk #[]))) (.node (.node .nil (some (.bool false)) .nil) (some (.int .i64 0)) .nil)) 5 fun h_5 => nxK h_3 fun i_6 => wrLK i_6 [.string s14, .int .i64 n16, .int .i64 n18, .bool b20, .bool b22] h_5 0 fun h23 => rdK h23 i_4 0 fun v24 => vIntE' .i64 v24 fun n25 => addKL h23 [.int .i64 0, .int .i64 0, .string (ByteArray.mk #[]), .slice none 0 0, .slice none 0 0, .slice none 0 0] (.node (.node (.node .nil (some (.slice none 0 0)) .nil) (some (.int .i64 0)) (.node .nil (some (.slice none 0 0)) .nil)) (some (.int .i64 0)) (.node (.node .nil (some (.slice none 0 0)) .nil) (some (.string (ByteArray.mk #[]))) .nil)) 6 fun h_7 => nxK h23 fun i_8 => wrLK i_8 [.int .i64 0, .int .i64 n25, .string (ByteArray.mk #[]), .slice none 0 0, .slice none 0 0, .slice none 0 0] h_7 0 fun h26 => aPE p7 fun m27 m28 => nIdx 0 m8 fun m29 => rdK h26 m27 (m28 + m29 * 5) fun v30 => vStrE v30 fun s31 => rdK h26 m27 (m28 + m29 * 5 + 1) fun v32 => vIntE' .i64 v32 fun n33 => rdK h26 m27 (m28 + m29 * 5 + 1 + 1) fun v34 => vIntE' .i64 v34 fun n35 => rdK h26 m27 (m28 + m29 * 5 + 1 + 1 + 1) fun v36 => vBoolE v36 fun b37 => rdK h26 m27 (m28 + m29 * 5 + 1 + 1 + 1 + 1) fun v38 => vBoolE v38 fun b39 => C f_e0 [.agg (Array.mk [.string s31, .int .i64 n33, .int .i64 n35, .bool b37, .bool b39])] h26 fun v40 h41 => vStrE v40 fun s42 => bEqC s42 (ByteArray.mk #[108, 101, 116]) (wrK h41 i_8 0 (.int .i64 1) fun h43 => eqC (↑m8 : Int) 1 (rdK h43 i_6 0 fun v44 => vStrE v44 fun s45 => rdK h43 i_6 1 fun v46 => vIntE' .i64 v46 fun n47 => rdK h43 i_6 2 fun v48 => vIntE' .i64 v48 fun n49 => rdK h43 i_6 3 fun v50 => vBoolE v50 fun b51 => rdK h43 i_6 4 fun v52 => vBoolE v52 fun b53 => C f_e3 [.int .i64 120, .agg (Array.mk [.string s45, .int .i64 n47, .int .i64 n49, .bool b51, .bool b53])] h43 fun v54 h55 => vTupE v54 fun l56 => lCE l56 fun v57 l58 => vAggE v57 fun l59 => lCE l59 fun v60 l61 => vIntE' .i64 v60 fun n62 => lCE l61 fun v63 l64 => vIntE' .i64 v63 fun n65 => lCE l64 fun v66 l67 => vStrE v66 fun s68 => lCE l67 fun v69 l70 => vSlE v69 fun p71 m72 m73 => lCE l70 fun v74 l75 => vSlE v74 fun p76 m77 m78 => lCE l75 fun v79 l80 => vSlE v79 fun p81 m82 m83 => lNE l80 (lCE l58 fun v84 l85 => vAggE v84 fun l86 => lCE l86 fun v87 l88 => vIntE' .i64 v87 fun n89 => lCE l88 fun v90 l91 => vStrE v90 fun s92 => lCE l91 fun v93 l94 => vIntE' .i64 v93 fun n95 => lCE l94 fun v96 l97 => vIntE' .i64 v96 fun n98 => lNE l97 (lNE l85 (nxK h_1 fun i_9 => wrLK i_9 [.int .i64 n62, .int .i64 n65, .string s68, .slice p71 m72 m73, .slice p76 m77 m78, .slice p81 m82 m83] h55 0 fun h99 => nxK h_2 fun i_10 => wrLK i_10 [.int .i64 n89, .string s92, .int .i64 n95, .int .i64 n98] h99 0 fun h100 => rdK h100 i_9 0 fun v101 => vIntE' .i64 v101 fun n102 => rdK h100 i_9 1 fun v103 => vIntE' .i64 v103 fun n104 => rdK h100 i_9 2 fun v105 => vStrE v105 fun s106 => rdK h100 i_9 3 fun v107 => vSlE v107 fun p108 m109 m110 => rdK h100 i_9 4 fun v111 => vSlE v111 fun p112 m113 m114 => rdK h100 i_9 5 fun v115 => vSlE v115 fun p116 m117 m118 => rdK h100 i_10 0 fun v119 => vIntE' .i64 v119 fun n120 => rdK h100 i_10 1 fun v121 => vStrE v121 fun s122 => rdK h100 i_10 2 fun v123 => vIntE' .i64 v123 fun n124 => rdK h100 i_10 3 fun v125 => vIntE' .i64 v125 fun n126 => Q (.tuple (Array.mk [.agg (Array.mk [.int .i64 n102, .int .i64 n104, .string s106, .slice p108 m109 m110, .slice p112 m113 m114, .slice p116 m117 m118]), .agg (Array.mk [.int .i64 n120, .string s122, .int .i64 n124, .int .i64 n126])])) h100)))) (aPE p7 fun m127 m128 => nIdx 1 m8 fun m129 => rdK h43 m127 (m128 + m129 * 5) fun v130 => vStrE v130 fun s131 => rdK h43 m127 (m128 + m129 * 5 + 1) fun v132 => vIntE' .i64 v132 fun n133 => rdK h43 m127 (m128 + m129 * 5 + 1 + 1) fun v134 => vIntE' .i64 v134 fun n135 => rdK h43 m127 (m128 + m129 * 5 + 1 + 1 + 1) fun v136 => vBoolE v136 fun b137 => rdK h43 m127 (m128 + m129 * 5 + 1 + 1 + 1 + 1) fun v138 => vBoolE v138 fun b139 => C f_e0 [.agg (Array.mk [.string s131, .int .i64 n133, .int .i64 n135, .bool b137, .bool b139])] h43 fun v140 h141 => vStrE v140 fun s142 => C f_dv [.string s142] h141 fun v143 h144 => vBoolE v143 fun b145 => bCE (!b145) (aPE p7 fun m146 m147 => nIdx 1 m8 fun m148 => rdK h144 m146 (m147 + m148 * 5) fun v149 => vStrE v149 fun s150 => rdK h144 m146 (m147 + m148 * 5 + 1) fun v151 => vIntE' .i64 v151 fun n152 => rdK h144 m146 (m147 + m148 * 5 + 1 + 1) fun v153 => vIntE' .i64 v153 fun n154 => rdK h144 m146 (m147 + m148 * 5 + 1 + 1 + 1) fun v155 => vBoolE v155 fun b156 => rdK h144 m146 (m147 + m148 * 5 + 1 + 1 + 1 + 1) fun v157 => vBoolE v157 fun b158 => C f_e3 [.int .i64 121, .agg (Array.mk [.string s150, .int .i64 n152, .int .i64 n154, .bool b156, .bool b158])] h144 fun v159 h160 => vTupE v159 fun l161 => lCE l161 fun v162 l163 => vAggE v162 fun l164 => lCE l164 fun v165 l166 => vIntE' .i64 v165 fun n167 => lCE l166 fun v168 l169 => vIntE' .i64 v168 fun n170 => lCE l169 fun v171 l172 => vStrE v171 fun s173 => lCE l172 fun v174 l175 => vSlE v174 fun p176 m177 m178 => lCE l175 fun v179 l180 => vSlE v179 fun p181 m182 m183 => lCE l180 fun v184 l185 => vSlE v184 fun p186 m187 m188 => lNE l185 (lCE l163 fun v189 l190 => vAggE v189 fun l191 => lCE l191 fun v192 l193 => vIntE' .i64 v192 fun n194 => lCE l193 fun v195 l196 => vStrE v195 fun s197 => lCE l196 fun v198 l199 => vIntE' .i64 v198 fun n200 => lCE l199 fun v201 l202 => vIntE' .i64 v201 fun n203 => lNE l202 (lNE l190 (nxK h_1 fun i_11 => wrLK i_11 [.int .i64 n167, .int .i64 n170, .string s173, .slice p176 m177 m178, .slice p181 m182 m183, .slice p186 m187 m188] h160 0 fun h204 => nxK h_2 fun i_12 => wrLK i_12 [.int .i64 n194, .string s197, .int .i64 n200, .int .i64 n203] h204 0 fun h205 => rdK h205 i_11 0 fun v206 => vIntE' .i64 v206 fun n207 => rdK h205 i_11 1 fun v208 => vIntE' .i64 v208 fun n209 => rdK h205 i_11 2 fun v210 => vStrE v210 fun s211 => rdK h205 i_11 3 fun v212 => vSlE v212 fun p213 m214 m215 => rdK h205 i_11 4 fun v216 => vSlE v216 fun p217 m218 m219 => rdK h205 i_11 5 fun v220 => vSlE v220 fun p221 m222 m223 => rdK h205 i_12 0 fun v224 => vIntE' .i64 v224 fun n225 => rdK h205 i_12 1 fun v226 => vStrE v226 fun s227 => rdK h205 i_12 2 fun v228 => vIntE' .i64 v228 fun n229 => rdK h205 i_12 3 fun v230 => vIntE' .i64 v230 fun n231 => Q (.tuple (Array.mk [.agg (Array.mk [.int .i64 n207, .int .i64 n209, .string s211, .slice p213 m214 m215, .slice p217 m218 m219, .slice p221 m222 m223]), .agg (Array.mk [.int .i64 n225, .string s227, .int .i64 n229, .int .i64 n231])])) h205)))) (eqC (↑m8 : Int) 2 (rdK h144 i_6 0 fun v232 => vStrE v232 fun s233 => rdK h144 i_6 1 fun v234 => vIntE' .i64 v234 fun n235 => rdK h144 i_6 2 fun v236 => vIntE' .i64 v236 fun n237 => rdK h144 i_6 3 fun v238 => vBoolE v238 fun b239 => rdK h144 i_6 4 fun v240 => vBoolE v240 fun b241 => C f_e3 [.int .i64 120, .agg (Array.mk [.string s233, .int .i64 n235, .int .i64 n237, .bool b239, .bool b241])] h144 fun v242 h243 => vTupE v242 fun l244 => lCE l244 fun v245 l246 => vAggE v245 fun l247 => lCE l247 fun v248 l249 => vIntE' .i64 v248 fun n250 => lCE l249 fun v251 l252 => vIntE' .i64 v251 fun n253 => lCE l252 fun v254 l255 => vStrE v254 fun s256 => lCE l255 fun v257 l258 => vSlE v257 fun p259 m260 m261 => lCE l258 fun v262 l263 => vSlE v262 fun p264 m265 m266 => lCE l263 fun v267 l268 => vSlE v267 fun p269 m270 m271 => lNE l268 (lCE l246 fun v272 l273 => vAggE v272 fun l274 => lCE l274 fun v275 l276 => vIntE' .i64 v275 fun n277 => lCE l276 fun v278 l279 => vStrE v278 fun s280 => lCE l279 fun v281 l282 => vIntE' .i64 v281 fun n283 => lCE l282 fun v284 l285 => vIntE' .i64 v284 fun n286 => lNE l285 (lNE l273 (nxK h_1 fun i_13 => wrLK i_13 [.int .i64 n250, .int .i64 n253, .string s256, .slice p259 m260 m261, .slice p264 m265 m266, .slice p269 m270 m271] h243 0 fun h287 => nxK h_2 fun i_14 => wrLK i_14 [.int .i64 n277, .string s280, .int .i64 n283, .int .i64 n286] h287 0 fun h288 => rdK h288 i_13 0 fun v289 => vIntE' .i64 v289 fun n290 => rdK h288 i_13 1 fun v291 => vIntE' .i64 v291 fun n292 => rdK h288 i_13 2 fun v293 => vStrE v293 fun s294 => rdK h288 i_13 3 fun v295 => vSlE v295 fun p296 m297 m298 => rdK h288 i_13 4 fun v299 => vSlE v299 fun p300 m301 m302 => rdK h288 i_13 5 fun v303 => vSlE v303 fun p304 m305 m306 => rdK h288 i_14 0 fun v307 => vIntE' .i64 v307 fun n308 => rdK h288 i_14 1 fun v309 => vStrE v309 fun s310 => rdK h288 i_14 2 fun v311 => vIntE' .i64 v311 fun n312 => rdK h288 i_14 3 fun v313 => vIntE' .i64 v313 fun n314 => Q (.tuple (Array.mk [.agg (Array.mk [.int .i64 n290, .int .i64 n292, .string s294, .slice p296 m297 m298, .slice p300 m301 m302, .slice p304 m305 m306]), .agg (Array.mk [.int .i64 n308, .string s310, .int .i64 n312, .int .i64 n314])])) h288)))) (aPE p7 fun m315 m316 => nIdx 2 m8 fun m317 => rdK h144 m315 (m316 + m317 * 5 + 4) fun v318 => vBoolE v318 fun b319 => bCE (!b319) (aPE p7 fun m320 m321 => nIdx 2 m8 fun m322 => rdK h144 m320 (m321 + m322 * 5) fun v323 => vStrE v323 fun s324 => rdK h144 m320 (m321 + m322 * 5 + 1) fun v325 => vIntE' .i64 v325 fun n326 => rdK h144 m320 (m321 + m322 * 5 + 1 + 1) fun v327 => vIntE' .i64 v327 fun n328 => rdK h144 m320 (m321 + m322 * 5 + 1 + 1 + 1) fun v329 => vBoolE v329 fun b330 => rdK h144 m320 (m321 + m322 * 5 + 1 + 1 + 1 + 1) fun v331 => vBoolE v331 fun b332 => C f_e3 [.int .i64 120, .agg (Array.mk [.string s324, .int .i64 n326, .int .i64 n328, .bool b330, .bool b332])] h144 fun v333 h334 => vTupE v333 fun l335 => lCE l335 fun v336 l337 => vAggE v336 fun l338 => lCE l338 fun v339 l340 => vIntE' .i64 v339 fun n341 => lCE l340 fun v342 l343 => vIntE' .i64 v342 fun n344 => lCE l343 fun v345 l346 => vStrE v345 fun s347 => lCE l346 fun v348 l349 => vSlE v348 fun p350 m351 m352 => lCE l349 fun v353 l354 => vSlE v353 fun p355 m356 m357 => lCE l354 fun v358 l359 => vSlE v358 fun p360 m361 m362 => lNE l359 (lCE l337 fun v363 l364 => vAggE v363 fun l365 => lCE l365 fun v366 l367 => vIntE' .i64 v366 fun n368 => lCE l367 fun v369 l370 => vStrE v369 fun s371 => lCE l370 fun v372 l373 => vIntE' .i64 v372 fun n374 => lCE l373 fun v375 l376 => vIntE' .i64 v375 fun n377 => lNE l376 (lNE l364 (nxK h_1 fun i_15 => wrLK i_15 [.int .i64 n341, .int .i64 n344, .string s347, .slice p350 m351 m352, .slice p355 m356 m357, .slice p360 m361 m362] h334 0 fun h378 => nxK h_2 fun i_16 => wrLK i_16 [.int .i64 n368, .string s371, .int .i64 n374, .int .i64 n377] h378 0 fun h379 => rdK h379 i_15 0 fun v380 => vIntE' .i64 v380 fun n381 => rdK h379 i_15 1 fun v382 => vIntE' .i64 v382 fun n383 => rdK h379 i_15 2 fun v384 => vStrE v384 fun s385 => rdK h379 i_15 3 fun v386 => vSlE v386 fun p387 m388 m389 => rdK h379 i_15 4 fun v390 => vSlE v390 fun p391 m392 m393 => rdK h379 i_15 5 fun v394 => vSlE v394 fun p395 m396 m397 => rdK h379 i_16 0 fun v398 => vIntE' .i64 v398 fun n399 => rdK h379 i_16 1 fun v400 => vStrE v400 fun s401 => rdK h379 i_16 2 fun v402 => vIntE' .i64 v402 fun n403 => rdK h379 i_16 3 fun v404 => vIntE' .i64 v404 fun n405 => Q (.tuple (Array.mk [.agg (Array.mk [.int .i64 n381, .int .i64 n383, .string s385, .slice p387 m388 m389, .slice p391 m392 m393, .slice p395 m396 m397]), .agg (Array.mk [.int .i64 n399, .string s401, .int .i64 n403, .int .i64 n405])])) h379)))) (aPE p7 fun m406 m407 => nIdx 2 m8 fun m408 => rdK h144 m406 (m407 + m408 * 5) fun v409 => vStrE v409 fun s410 => bCE (!bEq s410 (ByteArray.mk #[61])) (aPE p7 fun m411 m412 => nIdx 2 m8 fun m413 => rdK h144 m411 (m412 + m413 * 5) fun v414 => vStrE v414 fun s415 => rdK h144 m411 (m412 + m413 * 5 + 1) fun v416 => vIntE' .i64 v416 fun n417 => rdK h144 m411 (m412 + m413 * 5 + 1 + 1) fun v418 => vIntE' .i64 v418 fun n419 => rdK h144 m411 (m412 + m413 * 5 + 1 + 1 + 1) fun v420 => vBoolE v420 fun b421 => rdK h144 m411 (m412 + m413 * 5 + 1 + 1 + 1 + 1) fun v422 => vBoolE v422 fun b423 => C f_e3 [.int .i64 120, .agg (Array.mk [.string s415, .int .i64 n417, .int .i64 n419, .bool b421, .bool b423])] h144 fun v424 h425 => vTupE v424 fun l426 => lCE l426 fun v427 l428 => vAggE v427 fun l429 => lCE l429 fun v430 l431 => vIntE' .i64 v430 fun n432 => lCE l431 fun v433 l434 => vIntE' .i64 v433 fun n435 => lCE l434 fun v436 l437 => vStrE v436 fun s438 => lCE l437 fun v439 l440 => vSlE v439 fun p441 m442 m443 => lCE l440 fun v444 l445 => vSlE v444 fun p446 m447 m448 => lCE l445 fun v449 l450 => vSlE v449 fun p451 m452 m453 => lNE l450 (lCE l428 fun v454 l455 => vAggE v454 fun l456 => lCE l456 fun v457 l458 => vIntE' .i64 v457 fun n459 => lCE l458 fun v460 l461 => vStrE v460 fun s462 => lCE l461 fun v463 l464 => vIntE' .i64 v463 fun n465 => lCE l464 fun v466 l467 => vIntE' .i64 v466 fun n468 => lNE l467 (lNE l455 (nxK h_1 fun i_17 => wrLK i_17 [.int .i64 n432, .int .i64 n435, .string s438, .slice p441 m442 m443, .slice p446 m447 m448, .slice p451 m452 m453] h425 0 fun h469 => nxK h_2 fun i_18 => wrLK i_18 [.int .i64 n459, .string s462, .int .i64 n465, .int .i64 n468] h469 0 fun h470 => rdK h470 i_17 0 fun v471 => vIntE' .i64 v471 fun n472 => rdK h470 i_17 1 fun v473 => vIntE' .i64 v473 fun n474 => rdK h470 i_17 2 fun v475 => vStrE v475 fun s476 => rdK h470 i_17 3 fun v477 => vSlE v477 fun p478 m479 m480 => rdK h470 i_17 4 fun v481 => vSlE v481 fun p482 m483 m484 => rdK h470 i_17 5 fun v485 => vSlE v485 fun p486 m487 m488 => rdK h470 i_18 0 fun v489 => vIntE' .i64 v489 fun n490 => rdK h470 i_18 1 fun v491 => vStrE v491 fun s492 => rdK h470 i_18 2 fun v493 => vIntE' .i64 v493 fun n494 => rdK h470 i_18 3 fun v495 => vIntE' .i64 v495 fun n496 => Q (.tuple (Array.mk [.agg (Array.mk [.int .i64 n472, .int .i64 n474, .string s476, .slice p478 m479 m480, .slice p482 m483 m484, .slice p486 m487 m488]), .agg (Array.mk [.int .i64 n490, .string s492, .int .i64 n494, .int .i64 n496])])) h470)))) (aPE p7 fun m497 m498 => nIdx 1 m8 fun m499 => rdK h144 m497 (m498 + m499 * 5) fun v500 => vStrE v500 fun s501 => nBnd 3 m8 fun m502 => bCE (Nat.ble m8 m9) (oQ (shO p7 (m502 * 5)) fun p503 => wrK h144 i_8 2 (.string s501) fun h504 => wrK h504 i_8 4 (.slice p503 (m8 - m502) (m9 - m502)) fun h505 => nBnd 3 m8 fun m506 => bCE (Nat.ble m8 m9) (oQ (shO p7 (m506 * 5)) fun p507 => bCE (sameB (.slice p507 (m8 - m506) (m9 - m506)) (.slice p503 (m8 - m502) (m9 - m502))) (nxK h_1 fun i_19 => nxK h_2 fun i_20 => D f_dy 34 7344131 [.pointer (some ⟨i_19, 0, none⟩), .pointer (some ⟨i_20, 0, none⟩), .pointer (some ⟨i_8, 0, none⟩)] h505 Q) False) (False)) (False))))))) (bEqC s42 (ByteArray.mk #[105, 110, 99, 108, 117, 100, 101]) (wrK h41 i_8 0 (.int .i64 2) fun h508 => eqC (↑m8 : Int) 1 (rdK h508 i_6 0 fun v509 => vStrE v509 fun s510 => rdK h508 i_6 1 fun v511 => vIntE' .i64 v511 fun n512 => rdK h508 i_6 2 fun v513 => vIntE' .i64 v513 fun n514 => rdK h508 i_6 3 fun v515 => vBoolE v515 fun b516 => rdK h508 i_6 4 fun v517 => vBoolE v517 fun b518 => C f_e3 [.int .i64 120, .agg (Array.mk [.string s510, .int .i64 n512, .int .i64 n514, .bool b516, .bool b518])] h508 fun v519 h520 => vTupE v519 fun l521 => lCE l521 fun v522 l523 => vAggE v522 fun l524 => lCE l524 fun v525 l526 => vIntE' .i64 v525 fun n527 => lCE l526 fun v528 l529 => vIntE' .i64 v528 fun n530 => lCE l529 fun v531 l532 => vStrE v531 fun s533 => lCE l532 fun v534 l535 => vSlE v534 fun p536 m537 m538 => lCE l535 fun v539 l540 => vSlE v539 fun p541 m542 m543 => lCE l540 fun v544 l545 => vSlE v544 fun p546 m547 m548 => lNE l545 (lCE l523 fun v549 l550 => vAggE v549 fun l551 => lCE l551 fun v552 l553 => vIntE' .i64 v552 fun n554 => lCE l553 fun v555 l556 => vStrE v555 fun s557 => lCE l556 fun v558 l559 => vIntE' .i64 v558 fun n560 => lCE l559 fun v561 l562 => vIntE' .i64 v561 fun n563 => lNE l562 (lNE l550 (nxK h_1 fun i_21 => wrLK i_21 [.int .i64 n527, .int .i64 n530, .string s533, .slice p536 m537 m538, .slice p541 m542 m543, .slice p546 m547 m548] h520 0 fun h564 => nxK h_2 fun i_22 => wrLK i_22 [.int .i64 n554, .string s557, .int .i64 n560, .int .i64 n563] h564 0 fun h565 => rdK h565 i_21 0 fun v566 => vIntE' .i64 v566 fun n567 => rdK h565 i_21 1 fun v568 => vIntE' .i64 v568 fun n569 => rdK h565 i_21 2 fun v570 => vStrE v570 fun s571 => rdK h565 i_21 3 fun v572 => vSlE v572 fun p573 m574 m575 => rdK h565 i_21 4 fun v576 => vSlE v576 fun p577 m578 m579 => rdK h565 i_21 5 fun v580 => vSlE v580 fun p581 m582 m583 => rdK h565 i_22 0 fun v584 => vIntE' .i64 v584 fun n585 => rdK h565 i_22 1 fun v586 => vStrE v586 fun s587 => rdK h565 i_22 2 fun v588 => vIntE' .i64 v588 fun n589 => rdK h565 i_22 3 fun v590 => vIntE' .i64 v590 fun n591 => Q (.tuple (Array.mk [.agg (Array.mk [.int .i64 n567, .int .i64 n569, .string s571, .slice p573 m574 m575, .slice p577 m578 m579, .slice p581 m582 m583]), .agg (Array.mk [.int .i64 n585, .string s587, .int .i64 n589, .int .i64 n591])])) h565)))) (aPE p7 fun m592 m593 => nIdx 1 m8 fun m594 => rdK h508 m592 (m593 + m594 * 5 + 4) fun v595 => vBoolE v595 fun b596 => bCE b596 (aPE p7 fun m597 m598 => nIdx 1 m8 fun m599 => rdK h508 m597 (m598 + m599 * 5) fun v600 => vStrE v600 fun s601 => rdK h508 m597 (m598 + m599 * 5 + 1) fun v602 => vIntE' .i64 v602 fun n603 => rdK h508 m597 (m598 + m599 * 5 + 1 + 1) fun v604 => vIntE' .i64 v604 fun n605 => rdK h508 m597 (m598 + m599 * 5 + 1 + 1 + 1) fun v606 => vBoolE v606 fun b607 => rdK h508 m597 (m598 + m599 * 5 + 1 + 1 + 1 + 1) fun v608 => vBoolE v608 fun b609 => C f_e3 [.int .i64 120, .agg (Array.mk [.string s601, .int .i64 n603, .int .i64 n605, .bool b607, .bool b609])] h508 fun v610 h611 => vTupE v610 fun l612 => lCE l612 fun v613 l614 => vAggE v613 fun l615 => lCE l615 fun v616 l617 => vIntE' .i64 v616 fun n618 => lCE l617 fun v619 l620 => vIntE' .i64 v619 fun n621 => lCE l620 fun v622 l623 => vStrE v622 fun s624 => lCE l623 fun v625 l626 => vSlE v625 fun p627 m628 m629 => lCE l626 fun v630 l631 => vSlE v630 fun p632 m633 m634 => lCE l631 fun v635 l636 => vSlE v635 fun p637 m638 m639 => lNE l636 (lCE l614 fun v640 l641 => vAggE v640 fun l642 => lCE l642 fun v643 l644 => vIntE' .i64 v643 fun n645 => lCE l644 fun v646 l647 => vStrE v646 fun s648 => lCE l647 fun v649 l650 => vIntE' .i64 v649 fun n651 => lCE l650 fun v652 l653 => vIntE' .i64 v652 fun n654 => lNE l653 (lNE l641 (nxK h_1 fun i_23 => wrLK i_23 [.int .i64 n618, .int .i64 n621, .string s624, .slice p627 m628 m629, .slice p632 m633 m634, .slice p637 m638 m639] h611 0 fun h655 => nxK h_2 fun i_24 => wrLK i_24 [.int .i64 n645, .string s648, .int .i64 n651, .int .i64 n654] h655 0 fun h656 => rdK h656 i_23 0 fun v657 => vIntE' .i64 v657 fun n658 => rdK h656 i_23 1 fun v659 => vIntE' .i64 v659 fun n660 => rdK h656 i_23 2 fun v661 => vStrE v661 fun s662 => rdK h656 i_23 3 fun v663 => vSlE v663 fun p664 m665 m666 => rdK h656 i_23 4 fun v667 => vSlE v667 fun p668 m669 m670 => rdK h656 i_23 5 fun v671 => vSlE v671 fun p672 m673 m674 => rdK h656 i_24 0 fun v675 => vIntE' .i64 v675 fun n676 => rdK h656 i_24 1 fun v677 => vStrE v677 fun s678 => rdK h656 i_24 2 fun v679 => vIntE' .i64 v679 fun n680 => rdK h656 i_24 3 fun v681 => vIntE' .i64 v681 fun n682 => Q (.tuple (Array.mk [.agg (Array.mk [.int .i64 n658, .int .i64 n660, .string s662, .slice p664 m665 m666, .slice p668 m669 m670, .slice p672 m673 m674]), .agg (Array.mk [.int .i64 n676, .string s678, .int .i64 n680, .int .i64 n682])])) h656)))) (gtC (↑m8 : Int) 2 (aPE p7 fun m683 m684 => nIdx 2 m8 fun m685 => rdK h508 m683 (m684 + m685 * 5) fun v686 => vStrE v686 fun s687 => rdK h508 m683 (m684 + m685 * 5 + 1) fun v688 => vIntE' .i64 v688 fun n689 => rdK h508 m683 (m684 + m685 * 5 + 1 + 1) fun v690 => vIntE' .i64 v690 fun n691 => rdK h508 m683 (m684 + m685 * 5 + 1 + 1 + 1) fun v692 => vBoolE v692 fun b693 => rdK h508 m683 (m684 + m685 * 5 + 1 + 1 + 1 + 1) fun v694 => vBoolE v694 fun b695 => C f_e3 [.int .i64 120, .agg (Array.mk [.string s687, .int .i64 n689, .int .i64 n691, .bool b693, .bool b695])] h508 fun v696 h697 => vTupE v696 fun l698 => lCE l698 fun v699 l700 => vAggE v699 fun l701 => lCE l701 fun v702 l703 => vIntE' .i64 v702 fun n704 => lCE l703 fun v705 l706 => vIntE' .i64 v705 fun n707 => lCE l706 fun v708 l709 => vStrE v708 fun s710 => lCE l709 fun v711 l712 => vSlE v711 fun p713 m714 m715 => lCE l712 fun v716 l717 => vSlE v716 fun p718 m719 m720 => lCE l717 fun v721 l722 => vSlE v721 fun p723 m724 m725 => lNE l722 (lCE l700 fun v726 l727 => vAggE v726 fun l728 => lCE l728 fun v729 l730 => vIntE' .i64 v729 fun n731 => lCE l730 fun v732 l733 => vStrE v732 fun s734 => lCE l733 fun v735 l736 => vIntE' .i64 v735 fun n737 => lCE l736 fun v738 l739 => vIntE' .i64 v738 fun n740 => lNE l739 (lNE l727 (nxK h_1 fun i_25 => wrLK i_25 [.int .i64 n704, .int .i64 n707, .string s710, .slice p713 m714 m715, .slice p718 m719 m720, .slice p723 m724 m725] h697 0 fun h741 => nxK h_2 fun i_26 => wrLK i_26 [.int .i64 n731, .string s734, .int .i64 n737, .int .i64 n740] h741 0 fun h742 => rdK h742 i_25 0 fun v743 => vIntE' .i64 v743 fun n744 => rdK h742 i_25 1 fun v745 => vIntE' .i64 v745 fun n746 => rdK h742 i_25 2 fun v747 => vStrE v747 fun s748 => rdK h742 i_25 3 fun v749 => vSlE v749 fun p750 m751 m752 => rdK h742 i_25 4 fun v753 => vSlE v753 fun p754 m755 m756 => rdK h742 i_25 5 fun v757 => vSlE v757 fun p758 m759 m760 => rdK h742 i_26 0 fun v761 => vIntE' .i64 v761 fun n762 => rdK h742 i_26 1 fun v763 => vStrE v763 fun s764 => rdK h742 i_26 2 fun v765 => vIntE' .i64 v765 fun n766 => rdK h742 i_26 3 fun v767 => vIntE' .i64 v767 fun n768 => Q (.tuple (Array.mk [.agg (Array.mk [.int .i64 n744, .int .i64 n746, .string s748, .slice p750 m751 m752, .slice p754 m755 m756, .slice p758 m759 m760]), .agg (Array.mk [.int .i64 n762, .string s764, .int .i64 n766, .int .i64 n768])])) h742)))) (nBnd 1 m8 fun m769 => bCE (Nat.ble m8 m9) (oQ (shO p7 (m769 * 5)) fun p770 => wrK h508 i_8 4 (.slice p770 (m8 - m769) (m9 - m769)) fun h771 => nxK h_1 fun i_27 => nxK h_2 fun i_28 => D f_dy 34 7344131 [.pointer (some ⟨i_27, 0, none⟩), .pointer (some ⟨i_28, 0, none⟩), .pointer (some ⟨i_8, 0, none⟩)] h771 Q) (False))))) (bEqC s42 (ByteArray.mk #[114, 117, 108, 101]) (wrK h41 i_8 0 (.int .i64 3) fun h772 => C f_e1 [.slice p7 m8 m9] h772 fun v773 h774 => vIntE' .i64 v773 fun n775 => ltC n775 0 (rdK h774 i_6 0 fun v776 => vStrE v776 fun s777 => rdK h774 i_6 1 fun v778 => vIntE' .i64 v778 fun n779 => rdK h774 i_6 2 fun v780 => vIntE' .i64 v780 fun n781 => rdK h774 i_6 3 fun v782 => vBoolE v782 fun b783 => rdK h774 i_6 4 fun v784 => vBoolE v784 fun b785 => C f_e3 [.int .i64 120, .agg (Array.mk [.string s777, .int .i64 n779, .int .i64 n781, .bool b783, .bool b785])] h774 fun v786 h787 => vTupE v786 fun l788 => lCE l788 fun v789 l790 => vAggE v789 fun l791 => lCE l791 fun v792 l793 => vIntE' .i64 v792 fun n794 => lCE l793 fun v795 l796 => vIntE' .i64 v795 fun n797 => lCE l796 fun v798 l799 => vStrE v798 fun s800 => lCE l799 fun v801 l802 => vSlE v801 fun p803 m804 m805 => lCE l802 fun v806 l807 => vSlE v806 fun p808 m809 m810 => lCE l807 fun v811 l812 => vSlE v811 fun p813 m814 m815 => lNE l812 (lCE l790 fun v816 l817 => vAggE v816 fun l818 => lCE l818 fun v819 l820 => vIntE' .i64 v819 fun n821 => lCE l820 fun v822 l823 => vStrE v822 fun s824 => lCE l823 fun v825 l826 => vIntE' .i64 v825 fun n827 => lCE l826 fun v828 l829 => vIntE' .i64 v828 fun n830 => lNE l829 (lNE l817 (nxK h_1 fun i_29 => wrLK i_29 [.int .i64 n794, .int .i64 n797, .string s800, .slice p803 m804 m805, .slice p808 m809 m810, .slice p813 m814 m815] h787 0 fun h831 => nxK h_2 fun i_30 => wrLK i_30 [.int .i64 n821, .string s824, .int .i64 n827, .int .i64 n830] h831 0 fun h832 => rdK h832 i_29 0 fun v833 => vIntE' .i64 v833 fun n834 => rdK h832 i_29 1 fun v835 => vIntE' .i64 v835 fun n836 => rdK h832 i_29 2 fun v837 => vStrE v837 fun s838 => rdK h832 i_29 3 fun v839 => vSlE v839 fun p840 m841 m842 => rdK h832 i_29 4 fun v843 => vSlE v843 fun p844 m845 m846 => rdK h832 i_29 5 fun v847 => vSlE v847 fun p848 m849 m850 => rdK h832 i_30 0 fun v851 => vIntE' .i64 v851 fun n852 => rdK h832 i_30 1 fun v853 => vStrE v853 fun s854 => rdK h832 i_30 2 fun v855 => vIntE' .i64 v855 fun n856 => rdK h832 i_30 3 fun v857 => vIntE' .i64 v857 fun n858 => Q (.tuple (Array.mk [.agg (Array.mk [.int .i64 n834, .int .i64 n836, .string s838, .slice p840 m841 m842, .slice p844 m845 m846, .slice p848 m849 m850]), .agg (Array.mk [.int .i64 n852, .string s854, .int .i64 n856, .int .i64 n858])])) h832)))) (eqC n775 1 (aPE p7 fun m859 m860 => nIdx n775 m8 fun m861 => rdK h774 m859 (m860 + m861 * 5) fun v862 => vStrE v862 fun s863 => rdK h774 m859 (m860 + m861 * 5 + 1) fun v864 => vIntE' .i64 v864 fun n865 => rdK h774 m859 (m860 + m861 * 5 + 1 + 1) fun v866 => vIntE' .i64 v866 fun n867 => rdK h774 m859 (m860 + m861 * 5 + 1 + 1 + 1) fun v868 => vBoolE v868 fun b869 => rdK h774 m859 (m860 + m861 * 5 + 1 + 1 + 1 + 1) fun v870 => vBoolE v870 fun b871 => C f_e3 [.int .i64 120, .agg (Array.mk [.string s863, .int .i64 n865, .int .i64 n867, .bool b869, .bool b871])] h774 fun v872 h873 => vTupE v872 fun l874 => lCE l874 fun v875 l876 => vAggE v875 fun l877 => lCE l877 fun v878 l879 => vIntE' .i64 v878 fun n880 => lCE l879 fun v881 l882 => vIntE' .i64 v881 fun n883 => lCE l882 fun v884 l885 => vStrE v884 fun s886 => lCE l885 fun v887 l888 => vSlE v887 fun p889 m890 m891 => lCE l888 fun v892 l893 => vSlE v892 fun p894 m895 m896 => lCE l893 fun v897 l898 => vSlE v897 fun p899 m900 m901 => lNE l898 (lCE l876 fun v902 l903 => vAggE v902 fun l904 => lCE l904 fun v905 l906 => vIntE' .i64 v905 fun n907 => lCE l906 fun v908 l909 => vStrE v908 fun s910 => lCE l909 fun v911 l912 => vIntE' .i64 v911 fun n913 => lCE l912 fun v914 l915 => vIntE' .i64 v914 fun n916 => lNE l915 (lNE l903 (nxK h_1 fun i_31 => wrLK i_31 [.int .i64 n880, .int .i64 n883, .string s886, .slice p889 m890 m891, .slice p894 m895 m896, .slice p899 m900 m901] h873 0 fun h917 => nxK h_2 fun i_32 => wrLK i_32 [.int .i64 n907, .string s910, .int .i64 n913, .int .i64 n916] h917 0 fun h918 => rdK h918 i_31 0 fun v919 => vIntE' .i64 v919 fun n920 => rdK h918 i_31 1 fun v921 => vIntE' .i64 v921 fun n922 => rdK h918 i_31 2 fun v923 => vStrE v923 fun s924 => rdK h918 i_31 3 fun v925 => vSlE v925 fun p926 m927 m928 => rdK h918 i_31 4 fun v929 => vSlE v929 fun p930 m931 m932 => rdK h918 i_31 5 fun v933 => vSlE v933 fun p934 m935 m936 => rdK h918 i_32 0 fun v937 => vIntE' .i64 v937 fun n938 => rdK h918 i_32 1 fun v939 => vStrE v939 fun s940 => rdK h918 i_32 2 fun v941 => vIntE' .i64 v941 fun n942 => rdK h918 i_32 3 fun v943 => vIntE' .i64 v943 fun n944 => Q (.tuple (Array.mk [.agg (Array.mk [.int .i64 n920, .int .i64 n922, .string s924, .slice p926 m927 m928, .slice p930 m931 m932, .slice p934 m935 m936]), .agg (Array.mk [.int .i64 n938, .string s940, .int .i64 n942, .int .i64 n944])])) h918)))) (aPE p7 fun m945 m946 => nIdx n775 m8 fun m947 => rdK h774 m945 (m946 + m947 * 5) fun v948 => vStrE v948 fun s949 => bCE (!bEq s949 (ByteArray.mk #[58])) (aPE p7 fun m950 m951 => nIdx n775 m8 fun m952 => rdK h774 m950 (m951 + m952 * 5) fun v953 => vStrE v953 fun s954 => rdK h774 m950 (m951 + m952 * 5 + 1) fun v955 => vIntE' .i64 v955 fun n956 => rdK h774 m950 (m951 + m952 * 5 + 1 + 1) fun v957 => vIntE' .i64 v957 fun n958 => rdK h774 m950 (m951 + m952 * 5 + 1 + 1 + 1) fun v959 => vBoolE v959 fun b960 => rdK h774 m950 (m951 + m952 * 5 + 1 + 1 + 1 + 1) fun v961 => vBoolE v961 fun b962 => C f_e3 [.int .i64 120, .agg (Array.mk [.string s954, .int .i64 n956, .int .i64 n958, .bool b960, .bool b962])] h774 fun v963 h964 => vTupE v963 fun l965 => lCE l965 fun v966 l967 => vAggE v966 fun l968 => lCE l968 fun v969 l970 => vIntE' .i64 v969 fun n971 => lCE l970 fun v972 l973 => vIntE' .i64 v972 fun n974 => lCE l973 fun v975 l976 => vStrE v975 fun s977 => lCE l976 fun v978 l979 => vSlE v978 fun p980 m981 m982 => lCE l979 fun v983 l984 => vSlE v983 fun p985 m986 m987 => lCE l984 fun v988 l989 => vSlE v988 fun p990 m991 m992 => lNE l989 (lCE l967 fun v993 l994 => vAggE v993 fun l995 => lCE l995 fun v996 l997 => vIntE' .i64 v996 fun n998 => lCE l997 fun v999 l1000 => vStrE v999 fun s1001 => lCE l1000 fun v1002 l1003 => vIntE' .i64 v1002 fun n1004 => lCE l1003 fun v1005 l1006 => vIntE' .i64 v1005 fun n1007 => lNE l1006 (lNE l994 (nxK h_1 fun i_33 => wrLK i_33 [.int .i64 n971, .int .i64 n974, .string s977, .slice p980 m981 m982, .slice p985 m986 m987, .slice p990 m991 m992] h964 0 fun h1008 => nxK h_2 fun i_34 => wrLK i_34 [.int .i64 n998, .string s1001, .int .i64 n1004, .int .i64 n1007] h1008 0 fun h1009 => rdK h1009 i_33 0 fun v1010 => vIntE' .i64 v1010 fun n1011 => rdK h1009 i_33 1 fun v1012 => vIntE' .i64 v1012 fun n1013 => rdK h1009 i_33 2 fun v1014 => vStrE v1014 fun s1015 => rdK h1009 i_33 3 fun v1016 => vSlE v1016 fun p1017 m1018 m1019 => rdK h1009 i_33 4 fun v1020 => vSlE v1020 fun p1021 m1022 m1023 => rdK h1009 i_33 5 fun v1024 => vSlE v1024 fun p1025 m1026 m1027 => rdK h1009 i_34 0 fun v1028 => vIntE' .i64 v1028 fun n1029 => rdK h1009 i_34 1 fun v1030 => vStrE v1030 fun s1031 => rdK h1009 i_34 2 fun v1032 => vIntE' .i64 v1032 fun n1033 => rdK h1009 i_34 3 fun v1034 => vIntE' .i64 v1034 fun n1035 => Q (.tuple (Array.mk [.agg (Array.mk [.int .i64 n1011, .int .i64 n1013, .string s1015, .slice p1017 m1018 m1019, .slice p1021 m1022 m1023, .slice p1025 m1026 m1027]), .agg (Array.mk [.int .i64 n1029, .string s1031, .int .i64 n1033, .int .i64 n1035])])) h1009)))) (nBnd n775 m9 fun m1036 => nBnd 1 m1036 fun m1037 => bCE (Nat.ble m1036 m9) (oQ (shO p7 (m1037 * 5)) fun p1038 => nBnd (wI64 (addI n775 1)) m8 fun m1039 => bCE (Nat.ble m8 m9) (oQ (shO p7 (m1039 * 5)) fun p1040 => wrK h774 i_8 3 (.slice p1038 (m1036 - m1037) (m9 - m1037)) fun h1041 => wrK h1041 i_8 4 (.slice p1040 (m8 - m1039) (m9 - m1039)) fun h1042 => nBnd (wI64 (addI n775 1)) m8 fun m1043 => bCE (Nat.ble m8 m9) (oQ (shO p7 (m1043 * 5)) fun p1044 => bCE (sameB (.slice p1044 (m8 - m1043) (m9 - m1043)) (.slice p1040 (m8 - m1039) (m9 - m1039))) (nxK h_1 fun i_35 => nxK h_2 fun i_36 => D f_dy 34 7344131 [.pointer (some ⟨i_35, 0, none⟩), .pointer (some ⟨i_36, 0, none⟩), .pointer (some ⟨i_8, 0, none⟩)] h1042 Q) False) (False)) (False)) (False))))) (aPE p7 fun m1045 m1046 => nIdx 0 m8 fun m1047 => rdK h41 m1045 (m1046 + m1047 * 5) fun v1048 => vStrE v1048 fun s1049 => rdK h41 m1045 (m1046 + m1047 * 5 + 1) fun v1050 => vIntE' .i64 v1050 fun n1051 => rdK h41 m1045 (m1046 + m1047 * 5 + 1 + 1) fun v1052 => vIntE' .i64 v1052 fun n1053 => rdK h41 m1045 (m1046 + m1047 * 5 + 1 + 1 + 1) fun v1054 => vBoolE v1054 fun b1055 => rdK h41 m1045 (m1046 + m1047 * 5 + 1 + 1 + 1 + 1) fun v1056 => vBoolE v1056 fun b1057 => C f_e3 [.int .i64 120, .agg (Array.mk [.string s1049, .int .i64 n1051, .int .i64 n1053, .bool b1055, .bool b1057])] h41 fun v1058 h1059 => vTupE v1058 fun l1060 => lCE l1060 fun v1061 l1062 => vAggE v1061 fun l1063 => lCE l1063 fun v1064 l1065 => vIntE' .i64 v1064 fun n1066 => lCE l1065 fun v1067 l1068 => vIntE' .i64 v1067 fun n1069 => lCE l1068 fun v1070 l1071 => vStrE v1070 fun s1072 => lCE l1071 fun v1073 l1074 => vSlE v1073 fun p1075 m1076 m1077 => lCE l1074 fun v1078 l1079 => vSlE v1078 fun p1080 m1081 m1082 => lCE l1079 fun v1083 l1084 => vSlE v1083 fun p1085 m1086 m1087 => lNE l1084 (lCE l1062 fun v1088 l1089 => vAggE v1088 fun l1090 => lCE l1090 fun v1091 l1092 => vIntE' .i64 v1091 fun n1093 => lCE l1092 fun v1094 l1095 => vStrE v1094 fun s1096 => lCE l1095 fun v1097 l1098 => vIntE' .i64 v1097 fun n1099 => lCE l1098 fun v1100 l1101 => vIntE' .i64 v1100 fun n1102 => lNE l1101 (lNE l1089 (nxK h_1 fun i_37 => wrLK i_37 [.int .i64 n1066, .int .i64 n1069, .string s1072, .slice p1075 m1076 m1077, .slice p1080 m1081 m1082, .slice p1085 m1086 m1087] h1059 0 fun h1103 => nxK h_2 fun i_38 => wrLK i_38 [.int .i64 n1093, .string s1096, .int .i64 n1099, .int .i64 n1102] h1103 0 fun h1104 => rdK h1104 i_37 0 fun v1105 => vIntE' .i64 v1105 fun n1106 => rdK h1104 i_37 1 fun v1107 => vIntE' .i64 v1107 fun n1108 => rdK h1104 i_37 2 fun v1109 => vStrE v1109 fun s1110 => rdK h1104 i_37 3 fun v1111 => vSlE v1111 fun p1112 m1113 m1114 => rdK h1104 i_37 4 fun v1115 => vSlE v1115 fun p1116 m1117 m1118 => rdK h1104 i_37 5 fun v1119 => vSlE v1119 fun p1120 m1121 m1122 => rdK h1104 i_38 0 fun v1123 => vIntE' .i64 v1123 fun n1124 => rdK h1104 i_38 1 fun v1125 => vStrE v1125 fun s1126 => rdK h1104 i_38 2 fun v1127 => vIntE' .i64 v1127 fun n1128 => rdK h1104 i_38 3 fun v1129 => vIntE' .i64 v1129 fun n1130 => Q (.tuple (Array.mk [.agg (Array.mk [.int .i64 n1106, .int .i64 n1108, .string s1110, .slice p1112 m1113 m1114, .slice p1116 m1117 m1118, .slice p1120 m1121 m1122]), .agg (Array.mk [.int .i64 n1124, .string s1126, .int .i64 n1128, .int .i64 n1130])])) h1104))))))
  | _ => False
theorem k_dy : KE P d_dy f_dy 0 0 := by
  intro C D hC hD a h Q H
  unfold d_dy at H
  split at H
  · show EvQ P f_dy _ h Q
    refine r_dy ?_
    simp only [wI64_eq, addI_eq, subI_eq] at H
    revert H
    repeat' with_reducible first
 | refine qac ?_
 | refine qad ?_
 | refine qae ?_
 | refine qaf hC fun _ _ => ?_
 | refine qag hD (by decide)
 | refine qah (by with_unfolding_all rfl) (by with_unfolding_all rfl) ?_
 | refine qai ?_
 | refine qam fun _ => ?_
 | refine qan fun _ => ?_
 | refine qao fun _ => ?_
 | refine qaq fun _ => ?_
 | refine qar fun _ => ?_
 | refine qas fun _ => ?_
 | refine qat ?_ ?_
 | refine qav ?_ ?_
 | refine qax ?_ ?_
 | refine qaz ?_ ?_
 | refine qba fun _ => ?_
 | refine qbb fun _ _ _ => ?_
 | refine qbc fun _ => ?_
 | refine qbd fun _ _ => ?_
 | refine qbe ?_
 | refine qbf fun _ => ?_
 | refine qbh fun _ _ => ?_
 | refine qbk fun _ => ?_
 | refine qbn fun _ => ?_
 | refine qbo ?_
 | refine qbp ?_
 | refine qbq ?_ ?_
 | exact id
  · exact H.elim
noncomputable def e_dy : Ent P := ⟨f_dy, 0, 0, d_dy, k_dy⟩
noncomputable def d_dz : BodyT := fun C D a h Q => match a with
  | [.pointer (some ⟨m1, 0, none⟩), .pointer (some ⟨m2, 0, none⟩), .pointer (some ⟨m3, 0, none⟩)] => fN m1 fun m1 => fN m2 fun m2 => fN m3 fun m3 => rdK h m3 4 fun v4 => vSlE v4 fun p5 m6 m7 => C f_e1 [.slice p5 m6 m7] h fun v8 h9 => vIntE' .i64 v8 fun n10 => geC n10 0 (rdK h9 m3 4 fun v11 => vSlE v11 fun p12 m13 m14 => aPE p12 fun m15 m16 => nIdx n10 m13 fun m17 => rdK h9 m15 (m16 + m17 * 5) fun v18 => vStrE v18 fun s19 => rdK h9 m15 (m16 + m17 * 5 + 1) fun v20 => vIntE' .i64 v20 fun n21 => rdK h9 m15 (m16 + m17 * 5 + 1 + 1) fun v22 => vIntE' .i64 v22 fun n23 => rdK h9 m15 (m16 + m17 * 5 + 1 + 1 + 1) fun v24 => vBoolE v24 fun b25 => rdK h9 m15 (m16 + m17 * 5 + 1 + 1 + 1 + 1) fun v26 => vBoolE v26 fun b27 => C f_e3 [.int .i64 120, .agg (Array.mk [.string s19, .int .i64 n21, .int .i64 n23, .bool b25, .bool b27])] h9 fun v28 h29 => vTupE v28 fun l30 => lCE l30 fun v31 l32 => vAggE v31 fun l33 => lCE l33 fun v34 l35 => vIntE' .i64 v34 fun n36 => lCE l35 fun v37 l38 => vIntE' .i64 v37 fun n39 => lCE l38 fun v40 l41 => vStrE v40 fun s42 => lCE l41 fun v43 l44 => vSlE v43 fun p45 m46 m47 => lCE l44 fun v48 l49 => vSlE v48 fun p50 m51 m52 => lCE l49 fun v53 l54 => vSlE v53 fun p55 m56 m57 => lNE l54 (lCE l32 fun v58 l59 => vAggE v58 fun l60 => lCE l60 fun v61 l62 => vIntE' .i64 v61 fun n63 => lCE l62 fun v64 l65 => vStrE v64 fun s66 => lCE l65 fun v67 l68 => vIntE' .i64 v67 fun n69 => lCE l68 fun v70 l71 => vIntE' .i64 v70 fun n72 => lNE l71 (lNE l59 (wrLK m1 [.int .i64 n36, .int .i64 n39, .string s42, .slice p45 m46 m47, .slice p50 m51 m52, .slice p55 m56 m57] h29 0 fun h73 => wrLK m2 [.int .i64 n63, .string s66, .int .i64 n69, .int .i64 n72] h73 0 fun h74 => rdK h74 m1 0 fun v75 => vIntE' .i64 v75 fun n76 => rdK h74 m1 1 fun v77 => vIntE' .i64 v77 fun n78 => rdK h74 m1 2 fun v79 => vStrE v79 fun s80 => rdK h74 m1 3 fun v81 => vSlE v81 fun p82 m83 m84 => rdK h74 m1 4 fun v85 => vSlE v85 fun p86 m87 m88 => rdK h74 m1 5 fun v89 => vSlE v89 fun p90 m91 m92 => rdK h74 m2 0 fun v93 => vIntE' .i64 v93 fun n94 => rdK h74 m2 1 fun v95 => vStrE v95 fun s96 => rdK h74 m2 2 fun v97 => vIntE' .i64 v97 fun n98 => rdK h74 m2 3 fun v99 => vIntE' .i64 v99 fun n100 => Q (.tuple (Array.mk [.agg (Array.mk [.int .i64 n76, .int .i64 n78, .string s80, .slice p82 m83 m84, .slice p86 m87 m88, .slice p90 m91 m92]), .agg (Array.mk [.int .i64 n94, .string s96, .int .i64 n98, .int .i64 n100])])) h74)))) (rdK h9 m3 3 fun v101 => vSlE v101 fun p102 m103 m104 => C f_e5 [.slice p102 m103 m104] h9 fun v105 h106 => vSlE v105 fun p107 m108 m109 => rdK h106 m3 4 fun v110 => vSlE v110 fun p111 m112 m113 => C f_e5 [.slice p111 m112 m113] h106 fun v114 h115 => vSlE v114 fun p116 m117 m118 => wrK h115 m3 3 (.slice p107 m108 m109) fun h119 => wrK h119 m3 4 (.slice p116 m117 m118) fun h120 => rdK h9 m3 4 fun v121 => vSlE v121 fun p122 m123 m124 => bCE (sameB (.slice p122 m123 m124) (.slice p111 m112 m113)) (rdK h120 m3 0 fun v125 => vIntE' .i64 v125 fun n126 => rdK h120 m3 1 fun v127 => vIntE' .i64 v127 fun n128 => rdK h120 m3 2 fun v129 => vStrE v129 fun s130 => rdK h120 m3 3 fun v131 => vSlE v131 fun p132 m133 m134 => rdK h120 m3 4 fun v135 => vSlE v135 fun p136 m137 m138 => rdK h120 m3 5 fun v139 => vSlE v139 fun p140 m141 m142 => wrLK m1 [.int .i64 n126, .int .i64 n128, .string s130, .slice p132 m133 m134, .slice p136 m137 m138, .slice p140 m141 m142] h120 0 fun h143 => wrLK m2 [.int .i64 0, .string (ByteArray.mk #[]), .int .i64 0, .int .i64 0] h143 0 fun h144 => rdK h144 m1 0 fun v145 => vIntE' .i64 v145 fun n146 => rdK h144 m1 1 fun v147 => vIntE' .i64 v147 fun n148 => rdK h144 m1 2 fun v149 => vStrE v149 fun s150 => rdK h144 m1 3 fun v151 => vSlE v151 fun p152 m153 m154 => rdK h144 m1 4 fun v155 => vSlE v155 fun p156 m157 m158 => rdK h144 m1 5 fun v159 => vSlE v159 fun p160 m161 m162 => rdK h144 m2 0 fun v163 => vIntE' .i64 v163 fun n164 => rdK h144 m2 1 fun v165 => vStrE v165 fun s166 => rdK h144 m2 2 fun v167 => vIntE' .i64 v167 fun n168 => rdK h144 m2 3 fun v169 => vIntE' .i64 v169 fun n170 => Q (.tuple (Array.mk [.agg (Array.mk [.int .i64 n146, .int .i64 n148, .string s150, .slice p152 m153 m154, .slice p156 m157 m158, .slice p160 m161 m162]), .agg (Array.mk [.int .i64 n164, .string s166, .int .i64 n168, .int .i64 n170])])) h144) False)
  | _ => False
theorem k_dz : KE P d_dz f_dy 35 7344131 := by
  intro C D hC hD a h Q H
  unfold d_dz at H
  split at H
  · show unitAt P f_dy 34 (decL 7344131) _ h Q
    rw [show decL 7344131 = [2, 3, 6] from by decide]
    refine r_dz ?_
    revert H
    repeat' with_reducible first
 | refine qad ?_
 | refine qaf hC fun _ _ => ?_
 | refine qam fun _ => ?_
 | refine qan fun _ => ?_
 | refine qao fun _ => ?_
 | refine qaq fun _ => ?_
 | refine qas fun _ => ?_
 | refine qaw ?_ ?_
 | refine qba fun _ => ?_
 | refine qbb fun _ _ _ => ?_
 | refine qbc fun _ => ?_
 | refine qbd fun _ _ => ?_
 | refine qbe ?_
 | refine qbf fun _ => ?_
 | refine qbh fun _ _ => ?_
 | refine qbk fun _ => ?_
 | refine qbo ?_
 | refine qbp ?_
 | refine qbq ?_ ?_
 | exact id
  · exact H.elim
noncomputable def e_dz : Ent P := ⟨f_dy, 35, 7344131, d_dz, k_dz⟩
noncomputable def d_cf : BodyT := fun C D a h Q => match a with
  | [.pointer p1, .int .i64 n2, .agg (Array.mk [.string s3, .int .i64 n4, .int .i64 n5, .bool b6, .bool b7])] => fI n2 fun n2 => fI n4 fun n4 => fI n5 fun n5 => fB b6 fun b6 => fB b7 fun b7 => aPE p1 fun m8 m9 => addKL h [.string s3, .int .i64 n4, .int .i64 n5, .bool b6, .bool b7] (.node (.node (.node .nil (some (.bool b6)) .nil) (some (.int .i64 n4)) .nil) (some (.string s3)) (.node (.node .nil (some (.bool b7)) .nil) (some (.int .i64 n5)) .nil)) 5 fun h_1 => rdK h_1 m8 (m9 + 5) fun v10 => vSlE v10 fun p11 m12 m13 => aPE p1 fun m14 m15 => rdK h_1 m14 (m15 + 5) fun v16 => vSlE v16 fun p17 m18 m19 => aPE p11 fun m20 m21 => nIdx (wI64 (subI (↑m18 : Int) 1)) m12 fun m22 => rdK h_1 m20 (m21 + m22 * 1) fun v23 => vStrE v23 fun s24 => nxK h fun i_2 => rdK h_1 i_2 1 fun v25 => vIntE' .i64 v25 fun n26 => rdK h_1 i_2 2 fun v27 => vIntE' .i64 v27 fun n28 => aPE p1 fun m29 m30 => wrLK m29 [.int .i64 n2, .string s24, .int .i64 n26, .int .i64 n28] h_1 (m30 + 6) fun h31 => Q (.bool false) h31
  | _ => False
theorem k_cf : KE P d_cf f_cf 0 0 := by
  intro C D hC hD a h Q H
  unfold d_cf at H
  split at H
  · show EvQ P f_cf _ h Q
    refine r_cf ?_
    simp only [wI64_eq, subI_eq] at H
    revert H
    repeat' with_reducible first
 | refine qac ?_
 | refine qae ?_
 | refine qah (by with_unfolding_all rfl) (by with_unfolding_all rfl) ?_
 | refine qai ?_
 | refine qam fun _ => ?_
 | refine qao fun _ => ?_
 | refine qaq fun _ => ?_
 | refine qas fun _ => ?_
 | refine qba fun _ => ?_
 | refine qbb fun _ _ _ => ?_
 | refine qbh fun _ _ => ?_
 | exact id
  · exact H.elim
noncomputable def e_cf : Ent P := ⟨f_cf, 0, 0, d_cf, k_cf⟩
noncomputable def d_d6 : BodyT := fun C D a h Q => match a with
  | [.pointer p1] => C f_d8 [.pointer p1] h fun v2 h3 => vTupE v2 fun l4 => lCE l4 fun v5 l6 => vIntE' .u8 v5 fun n7 => lCE l6 fun v8 l9 => vIntE' .i64 v8 fun n10 => lNE l9 (aPE p1 fun m11 m12 => rdK h3 m11 (m12 + 3) fun v13 => vIntE' .i64 v13 fun n14 => aPE p1 fun m15 m16 => wrK h3 m15 (m16 + 3) (.int .i64 (wI64 (addI n14 n10))) fun h17 => gtC n10 0 (aPE p1 fun m18 m19 => rdK h17 m18 m19 fun v20 => vStrE v20 fun s21 => aPE p1 fun m22 m23 => rdK h17 m22 (m23 + 1) fun v24 => vIntE' .i64 v24 fun n25 => nIdx (wI64 (subI (wI64 (addI n25 n10)) 1)) (szE s21) fun m26 => bAtK s21 m26 fun n27 => eqC n27 10 (aPE p1 fun m28 m29 => rdK h17 m28 (m29 + 2) fun v30 => vIntE' .i64 v30 fun n31 => aPE p1 fun m32 m33 => wrK h17 m32 (m33 + 2) (.int .i64 (wI64 (addI n31 1))) fun h34 => aPE p1 fun m35 m36 => wrK h34 m35 (m36 + 3) (.int .i64 0) fun h37 => D f_d6 4 4097 [.pointer p1, .int .i64 n10] h37 Q) (D f_d6 4 4097 [.pointer p1, .int .i64 n10] h17 Q)) (D f_d6 4 4097 [.pointer p1, .int .i64 n10] h17 Q))
  | _ => False
theorem k_d6 : KE P d_d6 f_d6 0 0 := by
  intro C D hC hD a h Q H
  unfold d_d6 at H
  split at H
  · show EvQ P f_d6 _ h Q
    refine r_d6 ?_
    simp only [wI64_eq, addI_eq, subI_eq, szE_eq] at H
    revert H
    repeat' with_reducible first
 | refine qaf hC fun _ _ => ?_
 | refine qag hD (by decide)
 | refine qam fun _ => ?_
 | refine qan fun _ => ?_
 | refine qap fun _ => ?_
 | refine qaq fun _ => ?_
 | refine qas fun _ => ?_
 | refine qav ?_ ?_
 | refine qax ?_ ?_
 | refine qba fun _ => ?_
 | refine qbd fun _ _ => ?_
 | refine qbe ?_
 | refine qbf fun _ => ?_
 | refine qbh fun _ _ => ?_
 | exact id
  · exact H.elim
noncomputable def e_d6 : Ent P := ⟨f_d6, 0, 0, d_d6, k_d6⟩
noncomputable def d_d7 : BodyT := fun C D a h Q => match a with
  | [.pointer p1, .int .i64 n2] => fI n2 fun n2 => aPE p1 fun m3 m4 => rdK h m3 (m4 + 1) fun v5 => vIntE' .i64 v5 fun n6 => aPE p1 fun m7 m8 => wrK h m7 (m8 + 1) (.int .i64 (wI64 (addI n6 n2))) fun h9 => Q (.tuple (Array.mk [])) h9
  | _ => False
theorem k_d7 : KE P d_d7 f_d6 5 4097 := by
  intro C D hC hD a h Q H
  unfold d_d7 at H
  split at H
  · show unitAt P f_d6 4 (decL 4097) _ h Q
    rw [show decL 4097 = [0, 3] from by decide]
    refine r_d7 ?_
    simp only [wI64_eq, addI_eq] at H
    revert H
    repeat' with_reducible first
 | refine qac ?_
 | refine qam fun _ => ?_
 | refine qan fun _ => ?_
 | refine qas fun _ => ?_
 | refine qbh fun _ _ => ?_
 | exact id
  · exact H.elim
noncomputable def e_d7 : Ent P := ⟨f_d6, 5, 4097, d_d7, k_d7⟩
end
end Go.Proofs.YtamoepfiodgbbaaGreatDoor.E
end
