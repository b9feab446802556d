/- A deterministic heap for the model, proved sound, and walks of the program over it: part 14. No condition. -/
import Derived.Test.YtamoepfiodgbbaaGreatDoorCa8
set_option linter.unusedVariables false
set_option linter.unusedSimpArgs false
set_option linter.unusedSectionVars false
section
/- Bodies that the kernel can run, printed by a program of ours. -/
namespace Go.Proofs.YtamoepfiodgbbaaGreatDoor.E
open Go.Abs
set_option maxRecDepth 100000
set_option maxHeartbeats 4000000
section
noncomputable def d_d1 : BodyT := fun C D a h Q => match a with
  | [.pointer p1, .pointer (some ⟨m2, 0, none⟩), .pointer (some ⟨m3, 0, none⟩), .bool b4, .func (Fn.func 80) (Array.mk []) (Array.mk [.pointer (some ⟨m5, 0, none⟩), .pointer (some ⟨m6, 0, none⟩)]), .int .u8 n7, .int .i64 n8, .pointer (some ⟨m9, 0, none⟩)] => fN m2 fun m2 => fN m3 fun m3 => fB b4 fun b4 => fN m5 fun m5 => fN m6 fun m6 => fI n7 fun n7 => fI n8 fun n8 => fN m9 fun m9 => eqC n7 34 (C f_d9 [.pointer p1, .int .i64 n8] h fun v10 h11 => vStrE v10 fun s12 => wrK h11 m9 0 (.string s12) fun h13 => wrK h13 m9 3 (.bool true) fun h14 => rdK h14 m3 2 fun v15 => vSlE v15 fun p16 m17 m18 => rdK h14 m9 0 fun v19 => vStrE v19 fun s20 => rdK h14 m9 1 fun v21 => vIntE' .i64 v21 fun n22 => rdK h14 m9 2 fun v23 => vIntE' .i64 v23 fun n24 => rdK h14 m9 3 fun v25 => vBoolE v25 fun b26 => rdK h14 m9 4 fun v27 => vBoolE v27 fun b28 => addKL h14 [.string s20, .int .i64 n22, .int .i64 n24, .bool b26, .bool b28] (.node (.node (.node .nil (some (.bool b26)) .nil) (some (.int .i64 n22)) .nil) (some (.string s20)) (.node (.node .nil (some (.bool b28)) .nil) (some (.int .i64 n24)) .nil)) 5 fun h_1 => nxK h14 fun i_2 => apK ty_api_Word 5 40 h_1 (.slice p16 m17 m18) (.slice (some ⟨i_2, 0, none⟩) 1 1) fun v29 h30 => vSlE v29 fun p31 m32 m33 => wrK h30 m3 2 (.slice p31 m32 m33) fun h34 => D f_d0 5 7703029092353 [.pointer p1, .pointer (some ⟨m2, 0, none⟩), .pointer (some ⟨m3, 0, none⟩), .bool b4, .func (Fn.func f_d5) (Array.mk []) (Array.mk [.pointer (some ⟨m5, 0, none⟩), .pointer (some ⟨m6, 0, none⟩)])] h34 Q) (eqC n7 58 (D f_d0 35 12691151452959150081 [.pointer p1, .pointer (some ⟨m2, 0, none⟩), .pointer (some ⟨m3, 0, none⟩), .bool b4, .func (Fn.func f_d5) (Array.mk []) (Array.mk [.pointer (some ⟨m5, 0, none⟩), .pointer (some ⟨m6, 0, none⟩)]), .int .u8 n7, .pointer (some ⟨m9, 0, none⟩)] h Q) (eqC n7 61 (D f_d0 35 12691151452959150081 [.pointer p1, .pointer (some ⟨m2, 0, none⟩), .pointer (some ⟨m3, 0, none⟩), .bool b4, .func (Fn.func f_d5) (Array.mk []) (Array.mk [.pointer (some ⟨m5, 0, none⟩), .pointer (some ⟨m6, 0, none⟩)]), .int .u8 n7, .pointer (some ⟨m9, 0, none⟩)] h Q) (C f_d8 [.pointer p1] h fun v35 h36 => vTupE v35 fun l37 => lCE l37 fun v38 l39 => vIntE' .u8 v38 fun n40 => lCE l39 fun v41 l42 => vIntE' .i64 v41 fun n43 => lNE l42 (D f_d0 37 19360534681548080737685505 [.pointer p1, .pointer (some ⟨m2, 0, none⟩), .pointer (some ⟨m3, 0, none⟩), .bool b4, .func (Fn.func f_d5) (Array.mk []) (Array.mk [.pointer (some ⟨m5, 0, none⟩), .pointer (some ⟨m6, 0, none⟩)]), .int .i64 n8, .pointer (some ⟨m9, 0, none⟩), .int .u8 n40, .int .i64 n43] h36 Q))))
  | _ => False
theorem k_d1 : KE P d_d1 f_d0 31 12998046057839876640769 := by
  intro C D hC hD a h Q H
  unfold d_d1 at H
  split at H
  · show unitAt P f_d0 30 (decL 12998046057839876640769) _ h Q
    rw [show decL 12998046057839876640769 = [0, 3, 4, 5, 6, 7, 9, 10] from by decide]
    refine r_d1 ?_
    revert H
    repeat' with_reducible first
 | refine qbr ti_ty_sl_api_Word rfl ti_ty_api_Word rfl rfl rfl ti_ty_sl_api_Word rfl fun _ _ => ?_
 | refine qac ?_
 | refine qad ?_
 | refine qae ?_
 | refine qaf hC fun _ _ => ?_
 | refine qag hD (by decide)
 | refine qah (by with_unfolding_all rfl) (by with_unfolding_all rfl) ?_
 | refine qai ?_
 | refine qam fun _ => ?_
 | refine qan fun _ => ?_
 | refine qas fun _ => ?_
 | refine qax ?_ ?_
 | refine qba fun _ => ?_
 | refine qbb fun _ _ _ => ?_
 | refine qbc fun _ => ?_
 | refine qbd fun _ _ => ?_
 | refine qbe ?_
 | refine qbf fun _ => ?_
 | exact id
  · exact H.elim
noncomputable def e_d1 : Ent P := ⟨f_d0, 31, 12998046057839876640769, d_d1, k_d1⟩
noncomputable def d_d2 : BodyT := fun C D a h Q => match a with
  | [.pointer p1, .pointer (some ⟨m2, 0, none⟩), .pointer (some ⟨m3, 0, none⟩), .bool b4, .func (Fn.func 80) (Array.mk []) (Array.mk [.pointer (some ⟨m5, 0, none⟩), .pointer (some ⟨m6, 0, none⟩)]), .int .u8 n7, .pointer (some ⟨m8, 0, none⟩)] => fN m2 fun m2 => fN m3 fun m3 => fB b4 fun b4 => fN m5 fun m5 => fN m6 fun m6 => fI n7 fun n7 => fN m8 fun m8 => wrK h m8 0 (.string (Utf8.encode n7)) fun h9 => wrK h9 m8 4 (.bool true) fun h10 => rdK h10 m3 2 fun v11 => vSlE v11 fun p12 m13 m14 => rdK h10 m8 0 fun v15 => vStrE v15 fun s16 => rdK h10 m8 1 fun v17 => vIntE' .i64 v17 fun n18 => rdK h10 m8 2 fun v19 => vIntE' .i64 v19 fun n20 => rdK h10 m8 3 fun v21 => vBoolE v21 fun b22 => rdK h10 m8 4 fun v23 => vBoolE v23 fun b24 => addKL h10 [.string s16, .int .i64 n18, .int .i64 n20, .bool b22, .bool b24] (.node (.node (.node .nil (some (.bool b22)) .nil) (some (.int .i64 n18)) .nil) (some (.string s16)) (.node (.node .nil (some (.bool b24)) .nil) (some (.int .i64 n20)) .nil)) 5 fun h_1 => nxK h10 fun i_2 => apK ty_api_Word 5 40 h_1 (.slice p12 m13 m14) (.slice (some ⟨i_2, 0, none⟩) 1 1) fun v25 h26 => vSlE v25 fun p27 m28 m29 => wrK h26 m3 2 (.slice p27 m28 m29) fun h30 => D f_d0 5 7703029092353 [.pointer p1, .pointer (some ⟨m2, 0, none⟩), .pointer (some ⟨m3, 0, none⟩), .bool b4, .func (Fn.func f_d5) (Array.mk []) (Array.mk [.pointer (some ⟨m5, 0, none⟩), .pointer (some ⟨m6, 0, none⟩)])] h30 Q
  | _ => False
theorem k_d2 : KE P d_d2 f_d0 36 12691151452959150081 := by
  intro C D hC hD a h Q H
  unfold d_d2 at H
  split at H
  · show unitAt P f_d0 35 (decL 12691151452959150081) _ h Q
    rw [show decL 12691151452959150081 = [0, 3, 4, 5, 6, 7, 10] from by decide]
    refine r_d2 ?_
    revert H
    repeat' with_reducible first
 | refine qbr ti_ty_sl_api_Word rfl ti_ty_api_Word rfl rfl rfl ti_ty_sl_api_Word rfl fun _ _ => ?_
 | refine qac ?_
 | refine qad ?_
 | refine qae ?_
 | refine qag hD (by decide)
 | refine qah (by with_unfolding_all rfl) (by with_unfolding_all rfl) ?_
 | refine qai ?_
 | refine qam fun _ => ?_
 | refine qan fun _ => ?_
 | refine qas fun _ => ?_
 | refine qba fun _ => ?_
 | refine qbb fun _ _ _ => ?_
 | refine qbc fun _ => ?_
 | exact id
  · exact H.elim
noncomputable def e_d2 : Ent P := ⟨f_d0, 36, 12691151452959150081, d_d2, k_d2⟩
noncomputable def d_d3 : BodyT := fun C D a h Q => match a with
  | [.pointer p1, .pointer (some ⟨m2, 0, none⟩), .pointer (some ⟨m3, 0, none⟩), .bool b4, .func (Fn.func 80) (Array.mk []) (Array.mk [.pointer (some ⟨m5, 0, none⟩), .pointer (some ⟨m6, 0, none⟩)]), .int .i64 n7, .pointer (some ⟨m8, 0, none⟩), .int .u8 n9, .int .i64 n10] => fN m2 fun m2 => fN m3 fun m3 => fB b4 fun b4 => fN m5 fun m5 => fN m6 fun m6 => fI n7 fun n7 => fN m8 fun m8 => fI n9 fun n9 => fI n10 fun n10 => eqC n10 1 (C f_c4 [.int .u8 n9] h fun v11 h12 => vBoolE v11 fun b13 => bCE b13 (C f_d6 [.pointer p1] h12 fun v14 h15 => C f_d8 [.pointer p1] h15 fun v16 h17 => vTupE v16 fun l18 => lCE l18 fun v19 l20 => vIntE' .u8 v19 fun n21 => lCE l20 fun v22 l23 => vIntE' .i64 v22 fun n24 => lNE l23 (D f_d0 37 19360534681548080737685505 [.pointer p1, .pointer (some ⟨m2, 0, none⟩), .pointer (some ⟨m3, 0, none⟩), .bool b4, .func (Fn.func f_d5) (Array.mk []) (Array.mk [.pointer (some ⟨m5, 0, none⟩), .pointer (some ⟨m6, 0, none⟩)]), .int .i64 n7, .pointer (some ⟨m8, 0, none⟩), .int .u8 n21, .int .i64 n24] h17 Q)) (aPE p1 fun m25 m26 => rdK h12 m25 m26 fun v27 => vStrE v27 fun s28 => aPE p1 fun m29 m30 => rdK h12 m29 (m30 + 1) fun v31 => vIntE' .i64 v31 fun n32 => nBnd n32 (szE s28) fun m33 => nBnd n7 m33 fun m34 => subK s28 m34 m33 fun s_1 => wrK h12 m8 0 (.string s_1) fun h35 => rdK h35 m3 2 fun v36 => vSlE v36 fun p37 m38 m39 => rdK h35 m8 0 fun v40 => vStrE v40 fun s41 => rdK h35 m8 1 fun v42 => vIntE' .i64 v42 fun n43 => rdK h35 m8 2 fun v44 => vIntE' .i64 v44 fun n45 => rdK h35 m8 3 fun v46 => vBoolE v46 fun b47 => rdK h35 m8 4 fun v48 => vBoolE v48 fun b49 => addKL h35 [.string s41, .int .i64 n43, .int .i64 n45, .bool b47, .bool b49] (.node (.node (.node .nil (some (.bool b47)) .nil) (some (.int .i64 n43)) .nil) (some (.string s41)) (.node (.node .nil (some (.bool b49)) .nil) (some (.int .i64 n45)) .nil)) 5 fun h_2 => nxK h35 fun i_3 => apK ty_api_Word 5 40 h_2 (.slice p37 m38 m39) (.slice (some ⟨i_3, 0, none⟩) 1 1) fun v50 h51 => vSlE v50 fun p52 m53 m54 => wrK h51 m3 2 (.slice p52 m53 m54) fun h55 => D f_d0 5 7703029092353 [.pointer p1, .pointer (some ⟨m2, 0, none⟩), .pointer (some ⟨m3, 0, none⟩), .bool b4, .func (Fn.func f_d5) (Array.mk []) (Array.mk [.pointer (some ⟨m5, 0, none⟩), .pointer (some ⟨m6, 0, none⟩)])] h55 Q)) (aPE p1 fun m56 m57 => rdK h m56 m57 fun v58 => vStrE v58 fun s59 => aPE p1 fun m60 m61 => rdK h m60 (m61 + 1) fun v62 => vIntE' .i64 v62 fun n63 => nBnd n63 (szE s59) fun m64 => nBnd n7 m64 fun m65 => subK s59 m65 m64 fun s_4 => wrK h m8 0 (.string s_4) fun h66 => rdK h66 m3 2 fun v67 => vSlE v67 fun p68 m69 m70 => rdK h66 m8 0 fun v71 => vStrE v71 fun s72 => rdK h66 m8 1 fun v73 => vIntE' .i64 v73 fun n74 => rdK h66 m8 2 fun v75 => vIntE' .i64 v75 fun n76 => rdK h66 m8 3 fun v77 => vBoolE v77 fun b78 => rdK h66 m8 4 fun v79 => vBoolE v79 fun b80 => addKL h66 [.string s72, .int .i64 n74, .int .i64 n76, .bool b78, .bool b80] (.node (.node (.node .nil (some (.bool b78)) .nil) (some (.int .i64 n74)) .nil) (some (.string s72)) (.node (.node .nil (some (.bool b80)) .nil) (some (.int .i64 n76)) .nil)) 5 fun h_5 => nxK h66 fun i_6 => apK ty_api_Word 5 40 h_5 (.slice p68 m69 m70) (.slice (some ⟨i_6, 0, none⟩) 1 1) fun v81 h82 => vSlE v81 fun p83 m84 m85 => wrK h82 m3 2 (.slice p83 m84 m85) fun h86 => D f_d0 5 7703029092353 [.pointer p1, .pointer (some ⟨m2, 0, none⟩), .pointer (some ⟨m3, 0, none⟩), .bool b4, .func (Fn.func f_d5) (Array.mk []) (Array.mk [.pointer (some ⟨m5, 0, none⟩), .pointer (some ⟨m6, 0, none⟩)])] h86 Q)
  | _ => False
theorem k_d3 : KE P d_d3 f_d0 38 19360534681548080737685505 := by
  intro C D hC hD a h Q H
  unfold d_d3 at H
  split at H
  · show unitAt P f_d0 37 (decL 19360534681548080737685505) _ h Q
    rw [show decL 19360534681548080737685505 = [0, 3, 4, 5, 6, 9, 10, 14, 15] from by decide]
    refine r_d3 ?_
    simp only [szE_eq] at H
    revert H
    repeat' with_reducible first
 | refine qbr ti_ty_sl_api_Word rfl ti_ty_api_Word rfl rfl rfl ti_ty_sl_api_Word rfl fun _ _ => ?_
 | refine qac ?_
 | refine qad ?_
 | refine qae ?_
 | refine qaf hC fun _ _ => ?_
 | refine qag hD (by decide)
 | refine qah (by with_unfolding_all rfl) (by with_unfolding_all rfl) ?_
 | refine qai ?_
 | refine qaj ?_
 | refine qam fun _ => ?_
 | refine qan fun _ => ?_
 | refine qar fun _ => ?_
 | refine qas fun _ => ?_
 | refine qax ?_ ?_
 | refine qba fun _ => ?_
 | refine qbb fun _ _ _ => ?_
 | refine qbc fun _ => ?_
 | refine qbd fun _ _ => ?_
 | refine qbe ?_
 | refine qbf fun _ => ?_
 | refine qbh fun _ _ => ?_
 | refine qbo ?_
 | refine qbp ?_
 | refine qbq ?_ ?_
 | exact id
  · exact H.elim
noncomputable def e_d3 : Ent P := ⟨f_d0, 38, 19360534681548080737685505, d_d3, k_d3⟩
noncomputable def d_bu : BodyT := fun C D a h Q => match a with
  | [.slice p1 m2 m3] => fN m2 fun m2 => fN m3 fun m3 => D f_bu 3 9672072196 [.slice none 0 0, .slice p1 m2 m3, .int .i64 (↑m2 : Int), .int .i64 0] h Q
  | _ => False
theorem k_bu : KE P d_bu f_bu 0 0 := by
  intro C D hC hD a h Q H
  unfold d_bu at H
  split at H
  · show EvQ P f_bu _ h Q
    refine r_bu ?_
    revert H
    repeat' with_reducible first
 | refine qad ?_
 | refine qag hD (by decide)
 | exact id
  · exact H.elim
noncomputable def e_bu : Ent P := ⟨f_bu, 0, 0, d_bu, k_bu⟩
noncomputable def d_bv : BodyT := fun C D a h Q => match a with
  | [.slice p1 m2 m3, .slice p4 m5 m6, .int .i64 n7, .int .i64 n8] => fN m2 fun m2 => fN m3 fun m3 => fN m5 fun m5 => fN m6 fun m6 => fI n7 fun n7 => fI n8 fun n8 => ltC n8 n7 (aPE p4 fun m9 m10 => nIdx n8 m5 fun m11 => rdK h m9 (m10 + m11 * 6) fun v12 => vStrE v12 fun s13 => rdK h m9 (m10 + m11 * 6 + 1) fun v14 => vStrE v14 fun s15 => rdK h m9 (m10 + m11 * 6 + 1 + 1) fun v16 => vIntE' .i64 v16 fun n17 => rdK h m9 (m10 + m11 * 6 + 1 + 1 + 1) fun v18 => vIntE' .i64 v18 fun n19 => rdK h m9 (m10 + m11 * 6 + 1 + 1 + 1 + 1) fun v20 => vBoolE v20 fun b21 => rdK h m9 (m10 + m11 * 6 + 1 + 1 + 1 + 1 + 1) fun v22 => vBoolE v22 fun b23 => addKL h [.string (ByteArray.mk #[]), .string (ByteArray.mk #[]), .int .i64 0, .int .i64 0, .bool false, .bool false] (.node (.node (.node .nil (some (.int .i64 0)) .nil) (some (.string (ByteArray.mk #[]))) (.node .nil (some (.bool false)) .nil)) (some (.string (ByteArray.mk #[]))) (.node (.node .nil (some (.bool false)) .nil) (some (.int .i64 0)) .nil)) 6 fun h_1 => nxK h fun i_2 => wrLK i_2 [.string s13, .string s15, .int .i64 n17, .int .i64 n19, .bool b21, .bool b23] h_1 0 fun h24 => rdK h24 i_2 0 fun v25 => vStrE v25 fun s26 => addKL h24 [.string s26] (.node .nil (some (.string s26)) .nil) 1 fun h_3 => nxK h24 fun i_4 => apK ty_string 1 16 h_3 (.slice p1 m2 m3) (.slice (some ⟨i_4, 0, none⟩) 1 1) fun v27 h28 => vSlE v27 fun p29 m30 m31 => D f_bu 3 9672072196 [.slice p29 m30 m31, .slice p4 m5 m6, .int .i64 n7, .int .i64 (wI64 (addI n8 1))] h28 Q) (Q (.slice p1 m2 m3) h)
  | _ => False
theorem k_bv : KE P d_bv f_bu 4 9672072196 := by
  intro C D hC hD a h Q H
  unfold d_bv at H
  split at H
  · show unitAt P f_bu 3 (decL 9672072196) _ h Q
    rw [show decL 9672072196 = [3, 6, 7, 8] from by decide]
    refine r_bv ?_
    simp only [wI64_eq, addI_eq] at H
    revert H
    repeat' with_reducible first
 | refine qbr ti_ty_sl_string rfl ti_ty_string rfl rfl rfl ti_ty_sl_string rfl fun _ _ => ?_
 | refine qac ?_
 | refine qad ?_
 | refine qag hD (by decide)
 | refine qah (by with_unfolding_all rfl) (by with_unfolding_all rfl) ?_
 | refine qai ?_
 | refine qam fun _ => ?_
 | refine qao fun _ => ?_
 | refine qaq fun _ => ?_
 | refine qas fun _ => ?_
 | refine qat ?_ ?_
 | refine qba fun _ => ?_
 | refine qbb fun _ _ _ => ?_
 | refine qbc fun _ => ?_
 | refine qbh fun _ _ => ?_
 | exact id
  · exact H.elim
noncomputable def e_bv : Ent P := ⟨f_bu, 4, 9672072196, d_bv, k_bv⟩
noncomputable def d_bo : BodyT := fun C D a h Q => match a with
  | [.slice p1 m2 m3] => fN m2 fun m2 => fN m3 fun m3 => C f_e4 [.slice p1 m2 m3] h fun v4 h5 => vSlE v4 fun p6 m7 m8 => D f_bo 3 10494980 [.slice p6 m7 m8, .int .i64 (↑m7 : Int), .int .i64 0] h5 Q
  | _ => False
theorem k_bo : KE P d_bo f_bo 0 0 := by
  intro C D hC hD a h Q H
  unfold d_bo at H
  split at H
  · show EvQ P f_bo _ h Q
    refine r_bo ?_
    revert H
    repeat' with_reducible first
 | refine qad ?_
 | refine qaf hC fun _ _ => ?_
 | refine qag hD (by decide)
 | refine qbb fun _ _ _ => ?_
 | exact id
  · exact H.elim
noncomputable def e_bo : Ent P := ⟨f_bo, 0, 0, d_bo, k_bo⟩
noncomputable def d_bp : BodyT := fun C D a h Q => match a with
  | [.slice p1 m2 m3, .int .i64 n4, .int .i64 n5] => fN m2 fun m2 => fN m3 fun m3 => fI n4 fun n4 => fI n5 fun n5 => ltC n5 n4 (aPE p1 fun m6 m7 => nIdx n5 m2 fun m8 => rdK h m6 (m7 + m8 * 4 + 1) fun v9 => vSlE v9 fun p10 m11 m12 => C f_e6 [.slice p10 m11 m12] h fun v13 h14 => vSlE v13 fun p15 m16 m17 => aPE p1 fun m18 m19 => nIdx n5 m2 fun m20 => rdK h14 m18 (m19 + m20 * 4 + 3) fun v21 => vSlE v21 fun p22 m23 m24 => C f_bo [.slice p22 m23 m24] h14 fun v25 h26 => vSlE v25 fun p27 m28 m29 => aPE p1 fun m30 m31 => nIdx n5 m2 fun m32 => wrK h26 m30 (m31 + m32 * 4 + 1) (.slice p15 m16 m17) fun h33 => aPE p1 fun m34 m35 => nIdx n5 m2 fun m36 => wrK h33 m34 (m35 + m36 * 4 + 3) (.slice p27 m28 m29) fun h37 => rdK h m18 (m19 + m20 * 4 + 3) fun v38 => vSlE v38 fun p39 m40 m41 => bCE (sameB (.slice p39 m40 m41) (.slice p22 m23 m24)) (D f_bo 3 10494980 [.slice p1 m2 m3, .int .i64 n4, .int .i64 (wI64 (addI n5 1))] h37 Q) False) (Q (.slice p1 m2 m3) h)
  | _ => False
theorem k_bp : KE P d_bp f_bo 4 10494980 := by
  intro C D hC hD a h Q H
  unfold d_bp at H
  split at H
  · show unitAt P f_bo 3 (decL 10494980) _ h Q
    rw [show decL 10494980 = [3, 8, 9] from by decide]
    refine r_bp ?_
    simp only [wI64_eq, addI_eq] at H
    revert H
    repeat' with_reducible first
 | refine qac ?_
 | refine qad ?_
 | refine qaf hC fun _ _ => ?_
 | refine qag hD (by decide)
 | refine qam fun _ => ?_
 | refine qan fun _ => ?_
 | refine qaq fun _ => ?_
 | refine qat ?_ ?_
 | refine qbb fun _ _ _ => ?_
 | refine qbh fun _ _ => ?_
 | refine qbo ?_
 | refine qbp ?_
 | refine qbq ?_ ?_
 | exact id
  · exact H.elim
noncomputable def e_bp : Ent P := ⟨f_bo, 4, 10494980, d_bp, k_bp⟩
noncomputable def d_f2 : BodyT := fun C D a h Q => match a with
  | [.string s1, .string s2] => C f_f8 [.string s1, .string s2] h fun v3 h4 => vIntE' .i64 v3 fun n5 => Q (.bool (decide (n5 ≥ 0))) h4
  | _ => False
theorem k_f2 : KE P d_f2 f_f2 0 0 := by
  intro C D hC hD a h Q H
  unfold d_f2 at H
  split at H
  · show EvQ P f_f2 _ h Q
    refine r_f2 ?_
    revert H
    repeat' with_reducible first
 | refine qaf hC fun _ _ => ?_
 | refine qas fun _ => ?_
 | exact id
  · exact H.elim
noncomputable def e_f2 : Ent P := ⟨f_f2, 0, 0, d_f2, k_f2⟩
noncomputable def d_am : BodyT := fun C D a h Q => match a with
  | [.slice p1 m2 m3] => fN m2 fun m2 => fN m3 fun m3 => eqC (↑m2 : Int) 0 (addKL h [.int .i64 0, .slice none 0 0, .int .i64 0, .slice none 0 0] (.node (.node (.node .nil (some (.slice none 0 0)) .nil) (some (.slice none 0 0)) .nil) (some (.int .i64 0)) (.node .nil (some (.int .i64 0)) .nil)) 4 fun h_1 => nxK h fun i_2 => wrLK i_2 [.int .i64 0, .slice none 0 0, .int .i64 0, .slice none 0 0] h_1 0 fun h4 => rdK h4 i_2 0 fun v5 => vIntE' .i64 v5 fun n6 => rdK h4 i_2 1 fun v7 => vSlE v7 fun p8 m9 m10 => rdK h4 i_2 2 fun v11 => vIntE' .i64 v11 fun n12 => rdK h4 i_2 3 fun v13 => vSlE v13 fun p14 m15 m16 => Q (.tuple (Array.mk [.agg (Array.mk [.int .i64 n6, .slice p8 m9 m10, .int .i64 n12, .slice p14 m15 m16]), .bool false])) h4) (addKL h [.int .i64 0, .slice none 0 0, .int .i64 0, .slice none 0 0] (.node (.node (.node .nil (some (.slice none 0 0)) .nil) (some (.slice none 0 0)) .nil) (some (.int .i64 0)) (.node .nil (some (.int .i64 0)) .nil)) 4 fun h_3 => addKL h_3 [.int .i64 0, .slice none 0 0, .int .i64 0, .slice none 0 0] (.node (.node (.node .nil (some (.slice none 0 0)) .nil) (some (.slice none 0 0)) .nil) (some (.int .i64 0)) (.node .nil (some (.int .i64 0)) .nil)) 4 fun h_4 => nxK h_3 fun i_5 => wrLK i_5 [.int .i64 0, .slice none 0 0, .int .i64 0, .slice none 0 0] h_4 0 fun h17 => nxK h fun i_6 => D f_am 5 6447696897 [.slice p1 m2 m3, .pointer (some ⟨i_6, 0, none⟩), .pointer (some ⟨i_5, 0, none⟩), .int .i64 1] h17 Q)
  | _ => False
theorem k_am : KE P d_am f_am 0 0 := by
  intro C D hC hD a h Q H
  unfold d_am at H
  split at H
  · show EvQ P f_am _ h Q
    refine r_am ?_
    revert H
    repeat' with_reducible first
 | refine qad ?_
 | refine qag hD (by decide)
 | refine qah (by with_unfolding_all rfl) (by with_unfolding_all rfl) ?_
 | refine qai ?_
 | refine qam fun _ => ?_
 | refine qao fun _ => ?_
 | refine qas fun _ => ?_
 | refine qax ?_ ?_
 | refine qbb fun _ _ _ => ?_
 | exact id
  · exact H.elim
noncomputable def e_am : Ent P := ⟨f_am, 0, 0, d_am, k_am⟩
noncomputable def d_an : BodyT := fun C D a h Q => match a with
  | [.slice p1 m2 m3, .pointer (some ⟨m4, 0, none⟩), .pointer (some ⟨m5, 0, none⟩), .int .i64 n6] => fN m2 fun m2 => fN m3 fun m3 => fN m4 fun m4 => fN m5 fun m5 => fI n6 fun n6 => leC n6 12 (C f_ao [.int .i64 n6] h fun v7 h8 => vStrE v7 fun s9 => aPE p1 fun m10 m11 => nIdx 0 m2 fun m12 => rdK h8 m10 (m11 + m12 * 1) fun v13 => vStrE v13 fun s14 => rdK h m10 (m11 + m12 * 1) fun v15 => vStrE v15 fun s16 => bCE (sameB (.string s16) (.string s14)) (bEqC s9 s14 (wrK h8 m5 0 (.int .i64 n6) fun h17 => D f_am 5 6447696897 [.slice p1 m2 m3, .pointer (some ⟨m4, 0, none⟩), .pointer (some ⟨m5, 0, none⟩), .int .i64 (wI64 (addI n6 1))] h17 Q) (D f_am 5 6447696897 [.slice p1 m2 m3, .pointer (some ⟨m4, 0, none⟩), .pointer (some ⟨m5, 0, none⟩), .int .i64 (wI64 (addI n6 1))] h8 Q)) False) (nBnd 1 m2 fun m18 => bCE (Nat.ble m2 m3) (oQ (shO p1 (m18 * 1)) fun p19 => rdK h m5 0 fun v20 => vIntE' .i64 v20 fun n21 => eqC n21 10 (neC (↑(m2 - m18) : Int) 1 (wrLK m4 [.int .i64 0, .slice none 0 0, .int .i64 0, .slice none 0 0] h 0 fun h22 => rdK h22 m4 0 fun v23 => vIntE' .i64 v23 fun n24 => rdK h22 m4 1 fun v25 => vSlE v25 fun p26 m27 m28 => rdK h22 m4 2 fun v29 => vIntE' .i64 v29 fun n30 => rdK h22 m4 3 fun v31 => vSlE v31 fun p32 m33 m34 => Q (.tuple (Array.mk [.agg (Array.mk [.int .i64 n24, .slice p26 m27 m28, .int .i64 n30, .slice p32 m33 m34]), .bool false])) h22) (aPE p19 fun m35 m36 => nIdx 0 (m2 - m18) fun m37 => rdK h m35 (m36 + m37 * 1) fun v38 => vStrE v38 fun s39 => C f_ai [.string s39] h fun v40 h41 => vIntE' .i64 v40 fun n42 => wrK h41 m5 2 (.int .i64 n42) fun h43 => rdK h43 m5 0 fun v44 => vIntE' .i64 v44 fun n45 => rdK h43 m5 1 fun v46 => vSlE v46 fun p47 m48 m49 => rdK h43 m5 2 fun v50 => vIntE' .i64 v50 fun n51 => rdK h43 m5 3 fun v52 => vSlE v52 fun p53 m54 m55 => rdK h43 m5 2 fun v56 => vIntE' .i64 v56 fun n57 => wrLK m4 [.int .i64 n45, .slice p47 m48 m49, .int .i64 n51, .slice p53 m54 m55] h43 0 fun h58 => rdK h58 m5 2 fun v59 => vIntE' .i64 v59 fun n60 => bCE (sameB (.int .i64 n60) (.int .i64 n57)) (rdK h58 m4 0 fun v61 => vIntE' .i64 v61 fun n62 => rdK h58 m4 1 fun v63 => vSlE v63 fun p64 m65 m66 => rdK h58 m4 2 fun v67 => vIntE' .i64 v67 fun n68 => rdK h58 m4 3 fun v69 => vSlE v69 fun p70 m71 m72 => Q (.tuple (Array.mk [.agg (Array.mk [.int .i64 n62, .slice p64 m65 m66, .int .i64 n68, .slice p70 m71 m72]), .bool (decide (n57 ≥ 0))])) h58) False)) (C f_e6 [.slice p19 (m2 - m18) (m3 - m18)] h fun v73 h74 => vSlE v73 fun p75 m76 m77 => wrK h74 m5 1 (.slice p75 m76 m77) fun h78 => rdK h78 m5 0 fun v79 => vIntE' .i64 v79 fun n80 => rdK h78 m5 1 fun v81 => vSlE v81 fun p82 m83 m84 => rdK h78 m5 2 fun v85 => vIntE' .i64 v85 fun n86 => rdK h78 m5 3 fun v87 => vSlE v87 fun p88 m89 m90 => rdK h78 m5 0 fun v91 => vIntE' .i64 v91 fun n92 => gtC n92 0 (rdK h78 m5 0 fun v93 => vIntE' .i64 v93 fun n94 => C f_ad [.int .i64 n94, .int .i64 (↑(m2 - m18) : Int)] h78 fun v95 h96 => vBoolE v95 fun b97 => wrLK m4 [.int .i64 n80, .slice p82 m83 m84, .int .i64 n86, .slice p88 m89 m90] h96 0 fun h98 => rdK h96 m5 0 fun v99 => vIntE' .i64 v99 fun n100 => rdK h96 m5 1 fun v101 => vSlE v101 fun p102 m103 m104 => rdK h96 m5 2 fun v105 => vIntE' .i64 v105 fun n106 => rdK h96 m5 3 fun v107 => vSlE v107 fun p108 m109 m110 => bCE (sameB (.agg (Array.mk [.int .i64 n100, .slice p102 m103 m104, .int .i64 n106, .slice p108 m109 m110])) (.agg (Array.mk [.int .i64 n80, .slice p82 m83 m84, .int .i64 n86, .slice p88 m89 m90]))) (rdK h98 m4 0 fun v111 => vIntE' .i64 v111 fun n112 => rdK h98 m4 1 fun v113 => vSlE v113 fun p114 m115 m116 => rdK h98 m4 2 fun v117 => vIntE' .i64 v117 fun n118 => rdK h98 m4 3 fun v119 => vSlE v119 fun p120 m121 m122 => Q (.tuple (Array.mk [.agg (Array.mk [.int .i64 n112, .slice p114 m115 m116, .int .i64 n118, .slice p120 m121 m122]), .bool b97])) h98) False) (wrLK m4 [.int .i64 n80, .slice p82 m83 m84, .int .i64 n86, .slice p88 m89 m90] h78 0 fun h123 => rdK h123 m4 0 fun v124 => vIntE' .i64 v124 fun n125 => rdK h123 m4 1 fun v126 => vSlE v126 fun p127 m128 m129 => rdK h123 m4 2 fun v130 => vIntE' .i64 v130 fun n131 => rdK h123 m4 3 fun v132 => vSlE v132 fun p133 m134 m135 => Q (.tuple (Array.mk [.agg (Array.mk [.int .i64 n125, .slice p127 m128 m129, .int .i64 n131, .slice p133 m134 m135]), .bool false])) h123))) (False))
  | _ => False
theorem k_an : KE P d_an f_am 6 6447696897 := by
  intro C D hC hD a h Q H
  unfold d_an at H
  split at H
  · show unitAt P f_am 5 (decL 6447696897) _ h Q
    rw [show decL 6447696897 = [0, 2, 4, 5] from by decide]
    refine r_an ?_
    simp only [wI64_eq, addI_eq] at H
    revert H
    repeat' with_reducible first
 | refine qac ?_
 | refine qad ?_
 | refine qaf hC fun _ _ => ?_
 | refine qag hD (by decide)
 | refine qam fun _ => ?_
 | refine qan fun _ => ?_
 | refine qao fun _ => ?_
 | refine qaq fun _ => ?_
 | refine qar fun _ => ?_
 | refine qas fun _ => ?_
 | refine qau ?_ ?_
 | refine qav ?_ ?_
 | refine qax ?_ ?_
 | refine qay ?_ ?_
 | refine qaz ?_ ?_
 | refine qba fun _ => ?_
 | refine qbb fun _ _ _ => ?_
 | refine qbc fun _ => ?_
 | refine qbh fun _ _ => ?_
 | refine qbn fun _ => ?_
 | refine qbo ?_
 | refine qbp ?_
 | refine qbq ?_ ?_
 | exact id
  · exact H.elim
noncomputable def e_an : Ent P := ⟨f_am, 6, 6447696897, d_an, k_an⟩
noncomputable def d_bj : BodyT := fun C D a h Q => match a with
  | [.agg (Array.mk [.string s1, .slice p2 m3 m4, .slice p5 m6 m7, .slice p8 m9 m10])] => fN m3 fun m3 => fN m4 fun m4 => fN m6 fun m6 => fN m7 fun m7 => fN m9 fun m9 => fN m10 fun m10 => addKL h [.string s1, .slice p2 m3 m4, .slice p5 m6 m7, .slice p8 m9 m10] (.node (.node (.node .nil (some (.slice p8 m9 m10)) .nil) (some (.slice p2 m3 m4)) .nil) (some (.string s1)) (.node .nil (some (.slice p5 m6 m7)) .nil)) 4 fun h_1 => addKL h_1 [.string (ByteArray.mk #[114, 117, 108, 101])] (.node .nil (some (.string (ByteArray.mk #[114, 117, 108, 101]))) .nil) 1 fun h_2 => nxK h fun i_3 => rdK h_2 i_3 1 fun v11 => vSlE v11 fun p12 m13 m14 => nxK h_1 fun i_4 => D f_bj 3 19809479692290 [.pointer (some ⟨i_3, 0, none⟩), .slice (some ⟨i_4, 0, none⟩) 1 1, .slice p12 m13 m14, .int .i64 (↑m13 : Int), .int .i64 0] h_2 Q
  | _ => False
theorem k_bj : KE P d_bj f_bj 0 0 := by
  intro C D hC hD a h Q H
  unfold d_bj at H
  split at H
  · show EvQ P f_bj _ h Q
    refine r_bj ?_
    revert H
    repeat' with_reducible first
 | refine qad ?_
 | refine qag hD (by decide)
 | refine qah (by with_unfolding_all rfl) (by with_unfolding_all rfl) ?_
 | refine qai ?_
 | refine qam fun _ => ?_
 | refine qbb fun _ _ _ => ?_
 | exact id
  · exact H.elim
noncomputable def e_bj : Ent P := ⟨f_bj, 0, 0, d_bj, k_bj⟩
noncomputable def d_bl : BodyT := fun C D a h Q => match a with
  | [.pointer (some ⟨m1, 0, none⟩), .slice p2 m3 m4, .slice p5 m6 m7, .int .i64 n8, .int .i64 n9] => fN m1 fun m1 => fN m3 fun m3 => fN m4 fun m4 => fN m6 fun m6 => fN m7 fun m7 => fI n8 fun n8 => fI n9 fun n9 => ltC n9 n8 (aPE p5 fun m10 m11 => nIdx n9 m6 fun m12 => rdK h m10 (m11 + m12 * 1) fun v13 => vStrE v13 fun s14 => C f_c3 [.string s14] h fun v15 h16 => vStrE v15 fun s17 => addKL h16 [.string s17] (.node .nil (some (.string s17)) .nil) 1 fun h_1 => nxK h16 fun i_2 => apK ty_string 1 16 h_1 (.slice p2 m3 m4) (.slice (some ⟨i_2, 0, none⟩) 1 1) fun v18 h19 => vSlE v18 fun p20 m21 m22 => D f_bj 3 19809479692290 [.pointer (some ⟨m1, 0, none⟩), .slice p20 m21 m22, .slice p5 m6 m7, .int .i64 n8, .int .i64 (wI64 (addI n9 1))] h19 Q) (addKL h [.string (ByteArray.mk #[58])] (.node .nil (some (.string (ByteArray.mk #[58]))) .nil) 1 fun h_3 => nxK h fun i_4 => apK ty_string 1 16 h_3 (.slice p2 m3 m4) (.slice (some ⟨i_4, 0, none⟩) 1 1) fun v23 h24 => vSlE v23 fun p25 m26 m27 => rdK h24 m1 2 fun v28 => vSlE v28 fun p29 m30 m31 => D f_bj 9 37418862383106 [.pointer (some ⟨m1, 0, none⟩), .slice p25 m26 m27, .slice p29 m30 m31, .int .i64 (↑m30 : Int), .int .i64 0] h24 Q)
  | _ => False
theorem k_bl : KE P d_bl f_bj 4 19809479692290 := by
  intro C D hC hD a h Q H
  unfold d_bl at H
  split at H
  · show unitAt P f_bj 3 (decL 19809479692290) _ h Q
    rw [show decL 19809479692290 = [1, 3, 15, 16, 17] from by decide]
    refine r_bl ?_
    simp only [wI64_eq, addI_eq] at H
    revert H
    repeat' with_reducible first
 | refine qbr ti_ty_sl_string rfl ti_ty_string rfl rfl rfl ti_ty_sl_string rfl fun _ _ => ?_
 | refine qac ?_
 | refine qad ?_
 | refine qaf hC fun _ _ => ?_
 | refine qag hD (by decide)
 | refine qah (by with_unfolding_all rfl) (by with_unfolding_all rfl) ?_
 | refine qai ?_
 | refine qam fun _ => ?_
 | refine qaq fun _ => ?_
 | refine qat ?_ ?_
 | refine qba fun _ => ?_
 | refine qbb fun _ _ _ => ?_
 | refine qbh fun _ _ => ?_
 | exact id
  · exact H.elim
noncomputable def e_bl : Ent P := ⟨f_bj, 4, 19809479692290, d_bl, k_bl⟩
noncomputable def d_bm : BodyT := fun C D a h Q => match a with
  | [.pointer (some ⟨m1, 0, none⟩), .slice p2 m3 m4, .slice p5 m6 m7, .int .i64 n8, .int .i64 n9] => fN m1 fun m1 => fN m3 fun m3 => fN m4 fun m4 => fN m6 fun m6 => fN m7 fun m7 => fI n8 fun n8 => fI n9 fun n9 => ltC n9 n8 (aPE p5 fun m10 m11 => nIdx n9 m6 fun m12 => rdK h m10 (m11 + m12 * 1) fun v13 => vStrE v13 fun s14 => C f_c3 [.string s14] h fun v15 h16 => vStrE v15 fun s17 => addKL h16 [.string s17] (.node .nil (some (.string s17)) .nil) 1 fun h_1 => nxK h16 fun i_2 => apK ty_string 1 16 h_1 (.slice p2 m3 m4) (.slice (some ⟨i_2, 0, none⟩) 1 1) fun v18 h19 => vSlE v18 fun p20 m21 m22 => D f_bj 9 37418862383106 [.pointer (some ⟨m1, 0, none⟩), .slice p20 m21 m22, .slice p5 m6 m7, .int .i64 n8, .int .i64 (wI64 (addI n9 1))] h19 Q) (C f_fa [.slice p2 m3 m4, .string (ByteArray.mk #[32])] h fun v23 h24 => vStrE v23 fun s25 => bCE (Nat.ble (szE s25 + 1) 9223372036854775807) (rdK h24 m1 3 fun v26 => vSlE v26 fun p27 m28 m29 => C f_a7 [.slice p27 m28 m29] h24 fun v30 h31 => vTupE v30 fun l32 => lCE l32 fun v33 l34 => vStrE v33 fun s35 => lCE l34 fun v36 l37 => vIntE' .i64 v36 fun n38 => lNE l37 (neC n38 0 (Q (.string (s25 ++ ByteArray.mk #[10])) h31) (C f_fk [.string s35, .string (ByteArray.mk #[10])] h31 fun v39 h40 => vSlE v39 fun p41 m42 m43 => D f_bj 18 63411643401 [.string (s25 ++ ByteArray.mk #[10]), .slice p41 m42 m43, .int .i64 (↑m42 : Int), .int .i64 0] h40 Q))) (False))
  | _ => False
theorem k_bm : KE P d_bm f_bj 10 37418862383106 := by
  intro C D hC hD a h Q H
  unfold d_bm at H
  split at H
  · show unitAt P f_bj 9 (decL 37418862383106) _ h Q
    rw [show decL 37418862383106 = [1, 3, 31, 32, 33] from by decide]
    refine r_bm ?_
    simp only [wI64_eq, addI_eq, szE_eq] at H
    revert H
    repeat' with_reducible first
 | refine qbr ti_ty_sl_string rfl ti_ty_string rfl rfl rfl ti_ty_sl_string rfl fun _ _ => ?_
 | refine qac ?_
 | refine qad ?_
 | refine qaf hC fun _ _ => ?_
 | refine qag hD (by decide)
 | refine qah (by with_unfolding_all rfl) (by with_unfolding_all rfl) ?_
 | refine qai ?_
 | refine qam fun _ => ?_
 | refine qaq fun _ => ?_
 | refine qas fun _ => ?_
 | refine qat ?_ ?_
 | refine qay ?_ ?_
 | refine qba fun _ => ?_
 | refine qbb fun _ _ _ => ?_
 | refine qbd fun _ _ => ?_
 | refine qbe ?_
 | refine qbf fun _ => ?_
 | refine qbh fun _ _ => ?_
 | refine qbo ?_
 | refine qbp ?_
 | refine qbq ?_ ?_
 | exact id
  · exact H.elim
noncomputable def e_bm : Ent P := ⟨f_bj, 10, 37418862383106, d_bm, k_bm⟩
noncomputable def d_bk : BodyT := fun C D a h Q => match a with
  | [.string s1, .slice p2 m3 m4, .int .i64 n5, .int .i64 n6] => fN m3 fun m3 => fN m4 fun m4 => fI n5 fun n5 => fI n6 fun n6 => ltC n6 n5 (aPE p2 fun m7 m8 => nIdx n6 m3 fun m9 => rdK h m7 (m8 + m9 * 1) fun v10 => vStrE v10 fun s11 => bCE (!bEq s11 (ByteArray.mk #[])) (bCE (Nat.ble (1 + szE s11) 9223372036854775807) (bCE (Nat.ble (szE s1 + szE (ByteArray.mk #[9] ++ s11)) 9223372036854775807) (D f_bj 18 63411643401 [.string (s1 ++ (ByteArray.mk #[9] ++ s11)), .slice p2 m3 m4, .int .i64 n5, .int .i64 (wI64 (addI n6 1))] h Q) (False)) (False)) (D f_bj 18 63411643401 [.string s1, .slice p2 m3 m4, .int .i64 n5, .int .i64 (wI64 (addI n6 1))] h Q)) (Q (.string s1) h)
  | _ => False
theorem k_bk : KE P d_bk f_bj 19 63411643401 := by
  intro C D hC hD a h Q H
  unfold d_bk at H
  split at H
  · show unitAt P f_bj 18 (decL 63411643401) _ h Q
    rw [show decL 63411643401 = [8, 56, 57, 58] from by decide]
    refine r_bk ?_
    simp only [wI64_eq, addI_eq, szE_eq] at H
    revert H
    repeat' with_reducible first
 | refine qac ?_
 | refine qad ?_
 | refine qag hD (by decide)
 | refine qam fun _ => ?_
 | refine qaq fun _ => ?_
 | refine qat ?_ ?_
 | refine qba fun _ => ?_
 | refine qbh fun _ _ => ?_
 | refine qbo ?_
 | refine qbp ?_
 | refine qbq ?_ ?_
 | exact id
  · exact H.elim
noncomputable def e_bk : Ent P := ⟨f_bj, 19, 63411643401, d_bk, k_bk⟩
noncomputable def d_e6 : BodyT := fun C D a h Q => match a with
  | [.slice p1 m2 m3] => fN m2 fun m2 => fN m3 fun m3 => bCE (Option.isNone p1) (Q (.slice none 0 0) h) (addKL h [] .nil 0 fun h_1 => nxK h fun i_2 => apK ty_string 1 16 h_1 (.slice (some ⟨i_2, 0, none⟩) 0 0) (.slice p1 m2 m3) fun v4 h5 => vSlE v4 fun p6 m7 m8 => Q (.slice p6 m7 m8) h5)
  | _ => False
theorem k_e6 : KE P d_e6 f_e6 0 0 := by
  intro C D hC hD a h Q H
  unfold d_e6 at H
  split at H
  · show EvQ P f_e6 _ h Q
    refine r_e6 ?_
    revert H
    repeat' with_reducible first
 | refine qbr ti_ty_sl_string rfl ti_ty_string rfl rfl rfl ti_ty_sl_string rfl fun _ _ => ?_
 | refine qad ?_
 | refine qah (by with_unfolding_all rfl) (by with_unfolding_all rfl) ?_
 | refine qai ?_
 | refine qbb fun _ _ _ => ?_
 | refine qbo ?_
 | refine qbp ?_
 | refine qbq ?_ ?_
 | exact id
  · exact H.elim
noncomputable def e_e6 : Ent P := ⟨f_e6, 0, 0, d_e6, k_e6⟩
noncomputable def d_cs : BodyT := fun C D a h Q => match a with
  | [.pointer p1, .agg (Array.mk [.int .i64 n2, .int .i64 n3, .string s4, .slice p5 m6 m7, .slice p8 m9 m10, .slice p11 m12 m13])] => fI n2 fun n2 => fI n3 fun n3 => fN m6 fun m6 => fN m7 fun m7 => fN m9 fun m9 => fN m10 fun m10 => fN m12 fun m12 => fN m13 fun m13 => addKL h [.int .i64 n2, .int .i64 n3, .string s4, .slice p5 m6 m7, .slice p8 m9 m10, .slice p11 m12 m13] (.node (.node (.node .nil (some (.slice p5 m6 m7)) .nil) (some (.int .i64 n3)) (.node .nil (some (.slice p11 m12 m13)) .nil)) (some (.int .i64 n2)) (.node (.node .nil (some (.slice p8 m9 m10)) .nil) (some (.string s4)) .nil)) 6 fun h_1 => nxK h fun i_2 => rdK h_1 i_2 4 fun v14 => vSlE v14 fun p15 m16 m17 => aPE p15 fun m18 m19 => nIdx 0 m16 fun m20 => rdK h_1 m18 (m19 + m20 * 5) fun v21 => vStrE v21 fun s22 => rdK h_1 m18 (m19 + m20 * 5 + 1) fun v23 => vIntE' .i64 v23 fun n24 => rdK h_1 m18 (m19 + m20 * 5 + 1 + 1) fun v25 => vIntE' .i64 v25 fun n26 => rdK h_1 m18 (m19 + m20 * 5 + 1 + 1 + 1) fun v27 => vBoolE v27 fun b28 => rdK h_1 m18 (m19 + m20 * 5 + 1 + 1 + 1 + 1) fun v29 => vBoolE v29 fun b30 => addKL h_1 [.string (ByteArray.mk #[]), .int .i64 0, .int .i64 0, .bool false, .bool false] (.node (.node (.node .nil (some (.bool false)) .nil) (some (.int .i64 0)) .nil) (some (.string (ByteArray.mk #[]))) (.node (.node .nil (some (.bool false)) .nil) (some (.int .i64 0)) .nil)) 5 fun h_3 => nxK h_1 fun i_4 => wrLK i_4 [.string s22, .int .i64 n24, .int .i64 n26, .bool b28, .bool b30] h_3 0 fun h31 => rdK h31 i_2 4 fun v32 => vSlE v32 fun p33 m34 m35 => C f_cp [.pointer p1, .slice p33 m34 m35] h31 fun v36 h37 => vTupE v36 fun l38 => lCE l38 fun v39 l40 => vSlE v39 fun p41 m42 m43 => lCE l40 fun v44 l45 => vBoolE v44 fun b46 => lNE l45 (bCE (!b46) (Q (.bool false) h37) (C f_bu [.slice p41 m42 m43] h37 fun v47 h48 => vSlE v47 fun p49 m50 m51 => C f_fa [.slice p49 m50 m51, .string (ByteArray.mk #[32])] h48 fun v52 h53 => vStrE v52 fun s54 => C f_do [.string s54] h53 fun v55 h56 => vTupE v55 fun l57 => lCE l57 fun v58 l59 => vStrE v58 fun s60 => lCE l59 fun v61 l62 => vIntE' .i64 v61 fun n63 => lNE l62 (neC n63 0 (rdK h56 i_4 0 fun v64 => vStrE v64 fun s65 => rdK h56 i_4 1 fun v66 => vIntE' .i64 v66 fun n67 => rdK h56 i_4 2 fun v68 => vIntE' .i64 v68 fun n69 => rdK h56 i_4 3 fun v70 => vBoolE v70 fun b71 => rdK h56 i_4 4 fun v72 => vBoolE v72 fun b73 => C f_cf [.pointer p1, .int .i64 n63, .agg (Array.mk [.string s65, .int .i64 n67, .int .i64 n69, .bool b71, .bool b73])] h56 fun v74 h75 => vBoolE v74 fun b76 => Q (.bool b76) h75) (aPE p1 fun m77 m78 => rdK h56 m77 (m78 + 4) fun v79 => vIntE' .i64 v79 fun n80 => eqC n80 64 (rdK h56 i_4 0 fun v81 => vStrE v81 fun s82 => rdK h56 i_4 1 fun v83 => vIntE' .i64 v83 fun n84 => rdK h56 i_4 2 fun v85 => vIntE' .i64 v85 fun n86 => rdK h56 i_4 3 fun v87 => vBoolE v87 fun b88 => rdK h56 i_4 4 fun v89 => vBoolE v89 fun b90 => C f_cf [.pointer p1, .int .i64 3, .agg (Array.mk [.string s82, .int .i64 n84, .int .i64 n86, .bool b88, .bool b90])] h56 fun v91 h92 => vBoolE v91 fun b93 => Q (.bool b93) h92) (aPE p1 fun m94 m95 => rdK h56 m94 (m95 + 5) fun v96 => vSlE v96 fun p97 m98 m99 => gtC (↑m98 : Int) 8 (rdK h56 i_4 0 fun v100 => vStrE v100 fun s101 => rdK h56 i_4 1 fun v102 => vIntE' .i64 v102 fun n103 => rdK h56 i_4 2 fun v104 => vIntE' .i64 v104 fun n105 => rdK h56 i_4 3 fun v106 => vBoolE v106 fun b107 => rdK h56 i_4 4 fun v108 => vBoolE v108 fun b109 => C f_cf [.pointer p1, .int .i64 3, .agg (Array.mk [.string s101, .int .i64 n103, .int .i64 n105, .bool b107, .bool b109])] h56 fun v110 h111 => vBoolE v110 fun b112 => Q (.bool b112) h111) (aPE p1 fun m113 m114 => rdK h56 m113 (m114 + 5) fun v115 => vSlE v115 fun p116 m117 m118 => C f_e7 [.slice p116 m117 m118, .string s60] h56 fun v119 h120 => vBoolE v119 fun b121 => bCE b121 (rdK h120 i_4 0 fun v122 => vStrE v122 fun s123 => rdK h120 i_4 1 fun v124 => vIntE' .i64 v124 fun n125 => rdK h120 i_4 2 fun v126 => vIntE' .i64 v126 fun n127 => rdK h120 i_4 3 fun v128 => vBoolE v128 fun b129 => rdK h120 i_4 4 fun v130 => vBoolE v130 fun b131 => C f_cf [.pointer p1, .int .i64 150, .agg (Array.mk [.string s123, .int .i64 n125, .int .i64 n127, .bool b129, .bool b131])] h120 fun v132 h133 => vBoolE v132 fun b134 => Q (.bool b134) h133) (aPE p1 fun m135 m136 => rdK h120 m135 (m136 + 4) fun v137 => vIntE' .i64 v137 fun n138 => aPE p1 fun m139 m140 => wrK h120 m139 (m140 + 4) (.int .i64 (wI64 (addI n138 1))) fun h141 => aPE p1 fun m142 m143 => rdK h141 m142 m143 fun v144 => vFun v144 fun m145 l146 l147 => C m145 (l146 ++ .string s60 :: l147) h141 fun v148 h149 => vTupE v148 fun l150 => lCE l150 fun v151 l152 => vStrE v151 fun s153 => lCE l152 fun v154 l155 => vBoolE v154 fun b156 => lNE l155 (bCE (!b156) (rdK h149 i_4 0 fun v157 => vStrE v157 fun s158 => rdK h149 i_4 1 fun v159 => vIntE' .i64 v159 fun n160 => rdK h149 i_4 2 fun v161 => vIntE' .i64 v161 fun n162 => rdK h149 i_4 3 fun v163 => vBoolE v163 fun b164 => rdK h149 i_4 4 fun v165 => vBoolE v165 fun b166 => C f_cf [.pointer p1, .int .i64 4, .agg (Array.mk [.string s158, .int .i64 n160, .int .i64 n162, .bool b164, .bool b166])] h149 fun v167 h168 => vBoolE v167 fun b169 => Q (.bool b169) h168) (C f_cg [.pointer p1, .string s60, .string s153] h149 fun v170 h171 => vBoolE v170 fun b172 => Q (.bool b172) h171)))))))))
  | _ => False
theorem k_cs : KE P d_cs f_cs 0 0 := by
  intro C D hC hD a h Q H
  unfold d_cs at H
  split at H
  · show EvQ P f_cs _ h Q
    refine r_cs ?_
    simp only [wI64_eq, addI_eq] at H
    revert H
    repeat' with_reducible first
 | refine qac ?_
 | refine qad ?_
 | refine qaf hC fun _ _ => ?_
 | refine qah (by with_unfolding_all rfl) (by with_unfolding_all rfl) ?_
 | refine qai ?_
 | refine qam fun _ => ?_
 | refine qan fun _ => ?_
 | refine qao fun _ => ?_
 | refine qaq fun _ => ?_
 | refine qas fun _ => ?_
 | refine qav ?_ ?_
 | refine qax ?_ ?_
 | refine qay ?_ ?_
 | refine qba fun _ => ?_
 | refine qbb fun _ _ _ => ?_
 | refine qbc fun _ => ?_
 | refine qbd fun _ _ => ?_
 | refine qbe ?_
 | refine qbf fun _ => ?_
 | refine qbh fun _ _ => ?_
 | refine qbm fun _ _ _ => ?_
 | refine qbo ?_
 | refine qbp ?_
 | refine qbq ?_ ?_
 | exact id
  · exact H.elim
noncomputable def e_cs : Ent P := ⟨f_cs, 0, 0, d_cs, k_cs⟩
noncomputable def d_dn : BodyT := fun C D a h Q => match a with
  | [.string s1, .string s2] => C f_f4 [.string s1, .string (ByteArray.mk #[37])] h fun v3 h4 => vTupE v3 fun l5 => lCE l5 fun v6 l7 => vStrE v6 fun s8 => lCE l7 fun v9 l10 => vStrE v9 fun s11 => lCE l10 fun v12 l13 => vBoolE v12 fun b14 => lNE l13 (bCE (!b14) (Q (.tuple (Array.mk [.string (ByteArray.mk #[]), .bool (bEq s1 s2)])) h4) (C f_f2 [.string s11, .string (ByteArray.mk #[37])] h4 fun v15 h16 => vBoolE v15 fun b17 => bCE b17 (Q (.tuple (Array.mk [.string (ByteArray.mk #[]), .bool false])) h16) (leC (↑(szE s2) : Int) (wI64 (addI (↑(szE s8) : Int) (↑(szE s11) : Int))) (Q (.tuple (Array.mk [.string (ByteArray.mk #[]), .bool false])) h16) (C f_f6 [.string s2, .string s8] h16 fun v18 h19 => vBoolE v18 fun b20 => bCE (!b20) (Q (.tuple (Array.mk [.string (ByteArray.mk #[]), .bool false])) h19) (C f_f7 [.string s2, .string s11] h19 fun v21 h22 => vBoolE v21 fun b23 => bCE (!b23) (Q (.tuple (Array.mk [.string (ByteArray.mk #[]), .bool false])) h22) (nBnd (wI64 (subI (↑(szE s2) : Int) (↑(szE s11) : Int))) (szE s2) fun m24 => nBnd (↑(szE s8) : Int) m24 fun m25 => subK s2 m25 m24 fun s_1 => Q (.tuple (Array.mk [.string s_1, .bool true])) h22))))))
  | _ => False
theorem k_dn : KE P d_dn f_dn 0 0 := by
  intro C D hC hD a h Q H
  unfold d_dn at H
  split at H
  · show EvQ P f_dn _ h Q
    refine r_dn ?_
    simp only [wI64_eq, addI_eq, subI_eq, szE_eq] at H
    revert H
    repeat' with_reducible first
 | refine qaf hC fun _ _ => ?_
 | refine qaj ?_
 | refine qar fun _ => ?_
 | refine qau ?_ ?_
 | refine qba fun _ => ?_
 | refine qbc fun _ => ?_
 | refine qbd fun _ _ => ?_
 | refine qbe ?_
 | refine qbf fun _ => ?_
 | refine qbo ?_
 | refine qbp ?_
 | refine qbq ?_ ?_
 | exact id
  · exact H.elim
noncomputable def e_dn : Ent P := ⟨f_dn, 0, 0, d_dn, k_dn⟩
noncomputable def d_cr : BodyT := fun C D a h Q => match a with
  | [.pointer p1] => aPE p1 fun m2 m3 => rdK h m2 (m3 + 1) fun v4 => vPtrE v4 fun p5 => aPE p5 fun m6 m7 => rdK h m6 (m7 + 1) fun v8 => vMapE v8 fun p9 => mlK h p9 fun l10 => aPE p1 fun m11 m12 => rdK h m11 (m12 + 1) fun v13 => vPtrE v13 fun p14 => aPE p14 fun m15 m16 => rdK h m15 (m16 + 2) fun v17 => vSlE v17 fun p18 m19 m20 => Q (.bool (decide (IntKind.wrap .i64 ((↑(List.length l10) : Int) + (↑m19 : Int)) ≥ 256))) h
  | _ => False
theorem k_cr : KE P d_cr f_cr 0 0 := by
  intro C D hC hD a h Q H
  unfold d_cr at H
  split at H
  · show EvQ P f_cr _ h Q
    refine r_cr ?_
    revert H
    repeat' with_reducible first
 | refine qaa fun _ => ?_
 | refine qam fun _ => ?_
 | refine qbb fun _ _ _ => ?_
 | refine qbh fun _ _ => ?_
 | refine qbi fun _ => ?_
 | refine qbl fun _ => ?_
 | exact id
  · exact H.elim
noncomputable def e_cr : Ent P := ⟨f_cr, 0, 0, d_cr, k_cr⟩
noncomputable def d_fv : BodyT := fun C D a h Q => match a with
  | [.string s1, .string s2] => eqC (↑(szE s2) : Int) 0 (Q (.int .i64 0) h) (bEqC s2 s1 (Q (.int .i64 0) h) (eqC (↑(szE s2) : Int) 1 (nIdx 0 (szE s2) fun m3 => bAtK s2 m3 fun n4 => C f_fw [.string s1, .int .u8 n4] h fun v5 h6 => vIntE' .i64 v5 fun n7 => Q (.int .i64 n7) h6) (geC (↑(szE s2) : Int) (↑(szE s1) : Int) (Q (.int .i64 (Int.negSucc 0)) h) (rdK h 0 0 fun v8 => vIntE' .i64 v8 fun n9 => leC (↑(szE s2) : Int) n9 (leC (↑(szE s1) : Int) 64 (C f_bd [.string s1, .string s2] h fun v10 h11 => vIntE' .i64 v10 fun n12 => Q (.int .i64 n12) h11) (nIdx 0 (szE s2) fun m13 => bAtK s2 m13 fun n14 => nIdx 1 (szE s2) fun m15 => bAtK s2 m15 fun n16 => D f_fv 15 12998047184840369899521 [.string s1, .string s2, .int .i64 (↑(szE s2) : Int), .int .u8 n14, .int .u8 n16, .int .i64 0, .int .i64 (wI64 (addI (wI64 (subI (↑(szE s1) : Int) (↑(szE s2) : Int))) 1)), .int .i64 0] h Q)) (nIdx 0 (szE s2) fun m17 => bAtK s2 m17 fun n18 => nIdx 1 (szE s2) fun m19 => bAtK s2 m19 fun n20 => D f_fv 15 12998047184840369899521 [.string s1, .string s2, .int .i64 (↑(szE s2) : Int), .int .u8 n18, .int .u8 n20, .int .i64 0, .int .i64 (wI64 (addI (wI64 (subI (↑(szE s1) : Int) (↑(szE s2) : Int))) 1)), .int .i64 0] h Q)))))
  | _ => False
theorem k_fv : KE P d_fv f_fv 0 0 := by
  intro C D hC hD a h Q H
  unfold d_fv at H
  split at H
  · show EvQ P f_fv _ h Q
    refine r_fv ?_
    simp only [wI64_eq, addI_eq, subI_eq, szE_eq] at H
    revert H
    repeat' with_reducible first
 | refine qaf hC fun _ _ => ?_
 | refine qag hD (by decide)
 | refine qam fun _ => ?_
 | refine qap fun _ => ?_
 | refine qaq fun _ => ?_
 | refine qas fun _ => ?_
 | refine qau ?_ ?_
 | refine qaw ?_ ?_
 | refine qax ?_ ?_
 | refine qaz ?_ ?_
 | exact id
  · exact H.elim
noncomputable def e_fv : Ent P := ⟨f_fv, 0, 0, d_fv, k_fv⟩
noncomputable def d_a2 : BodyT := fun C D a h Q => match a with
  | [.slice p1 m2 m3] => fN m2 fun m2 => fN m3 fun m3 => C f_ak [.slice p1 m2 m3, .int .i64 0] h fun v4 h5 => vBoolE v4 fun b6 => bCE b6 (C f_ab [.slice p1 m2 m3] h5 fun v7 h8 => vIntE' .i64 v7 fun n9 => Q (.bool (decide (n9 ≤ 256))) h8) (Q (.bool false) h5)
  | _ => False
theorem k_a2 : KE P d_a2 f_a2 0 0 := by
  intro C D hC hD a h Q H
  unfold d_a2 at H
  split at H
  · show EvQ P f_a2 _ h Q
    refine r_a2 ?_
    revert H
    repeat' with_reducible first
 | refine qad ?_
 | refine qaf hC fun _ _ => ?_
 | refine qas fun _ => ?_
 | refine qbc fun _ => ?_
 | refine qbo ?_
 | refine qbp ?_
 | refine qbq ?_ ?_
 | exact id
  · exact H.elim
noncomputable def e_a2 : Ent P := ⟨f_a2, 0, 0, d_a2, k_a2⟩
end
end Go.Proofs.YtamoepfiodgbbaaGreatDoor.E
end

section
/- Bodies that the kernel can run, printed by a program of ours. -/
namespace Go.Proofs.YtamoepfiodgbbaaGreatDoor.E
open Go.Abs
set_option maxRecDepth 100000
set_option maxHeartbeats 4000000
section
noncomputable def d_bq : BodyT := fun C D a h Q => match a with
  | [.agg (Array.mk [.string s1, .slice p2 m3 m4, .slice p5 m6 m7, .slice p8 m9 m10])] => fN m3 fun m3 => fN m4 fun m4 => fN m6 fun m6 => fN m7 fun m7 => fN m9 fun m9 => fN m10 fun m10 => addKL h [.string s1, .slice p2 m3 m4, .slice p5 m6 m7, .slice p8 m9 m10] (.node (.node (.node .nil (some (.slice p8 m9 m10)) .nil) (some (.slice p2 m3 m4)) .nil) (some (.string s1)) (.node .nil (some (.slice p5 m6 m7)) .nil)) 4 fun h_1 => addKL h_1 [.string (ByteArray.mk #[]), .slice none 0 0, .slice none 0 0, .slice none 0 0] (.node (.node (.node .nil (some (.slice none 0 0)) .nil) (some (.slice none 0 0)) .nil) (some (.string (ByteArray.mk #[]))) (.node .nil (some (.slice none 0 0)) .nil)) 4 fun h_2 => nxK h fun i_3 => rdK h_2 i_3 0 fun v11 => vStrE v11 fun s12 => rdK h_2 i_3 1 fun v13 => vSlE v13 fun p14 m15 m16 => C f_e6 [.slice p14 m15 m16] h_2 fun v17 h18 => vSlE v17 fun p19 m20 m21 => rdK h18 i_3 2 fun v22 => vSlE v22 fun p23 m24 m25 => C f_e6 [.slice p23 m24 m25] h18 fun v26 h27 => vSlE v26 fun p28 m29 m30 => rdK h27 i_3 3 fun v31 => vSlE v31 fun p32 m33 m34 => C f_bo [.slice p32 m33 m34] h27 fun v35 h36 => vSlE v35 fun p37 m38 m39 => nxK h_1 fun i_4 => wrLK i_4 [.string s12, .slice p19 m20 m21, .slice p28 m29 m30, .slice p37 m38 m39] h36 0 fun h40 => rdK h18 i_3 0 fun v41 => vStrE v41 fun s42 => bCE (sameB (.string s42) (.string s12)) (rdK h27 i_3 0 fun v43 => vStrE v43 fun s44 => bCE (sameB (.string s44) (.string s12)) (rdK h36 i_3 0 fun v45 => vStrE v45 fun s46 => bCE (sameB (.string s46) (.string s12)) (rdK h_2 i_3 2 fun v47 => vSlE v47 fun p48 m49 m50 => bCE (sameB (.slice p48 m49 m50) (.slice p23 m24 m25)) (rdK h_2 i_3 3 fun v51 => vSlE v51 fun p52 m53 m54 => bCE (sameB (.slice p52 m53 m54) (.slice p32 m33 m34)) (rdK h18 i_3 3 fun v55 => vSlE v55 fun p56 m57 m58 => bCE (sameB (.slice p56 m57 m58) (.slice p32 m33 m34)) (rdK h40 i_4 0 fun v59 => vStrE v59 fun s60 => rdK h40 i_4 1 fun v61 => vSlE v61 fun p62 m63 m64 => rdK h40 i_4 2 fun v65 => vSlE v65 fun p66 m67 m68 => rdK h40 i_4 3 fun v69 => vSlE v69 fun p70 m71 m72 => Q (.agg (Array.mk [.string s60, .slice p62 m63 m64, .slice p66 m67 m68, .slice p70 m71 m72])) h40) False) False) False) False) False) False
  | _ => False
theorem k_bq : KE P d_bq f_bq 0 0 := by
  intro C D hC hD a h Q H
  unfold d_bq at H
  split at H
  · show EvQ P f_bq _ h Q
    refine r_bq ?_
    revert H
    repeat' with_reducible first
 | refine qad ?_
 | refine qaf hC fun _ _ => ?_
 | refine qah (by with_unfolding_all rfl) (by with_unfolding_all rfl) ?_
 | refine qai ?_
 | refine qam fun _ => ?_
 | refine qao fun _ => ?_
 | refine qba fun _ => ?_
 | refine qbb fun _ _ _ => ?_
 | refine qbo ?_
 | refine qbp ?_
 | refine qbq ?_ ?_
 | exact id
  · exact H.elim
noncomputable def e_bq : Ent P := ⟨f_bq, 0, 0, d_bq, k_bq⟩
noncomputable def d_c4 : BodyT := fun C D a h Q => match a with
  | [.int .u8 n1] => fI n1 fun n1 => eqC n1 34 (Q (.bool false) h) (eqC n1 35 (Q (.bool false) h) (eqC n1 58 (Q (.bool false) h) (eqC n1 61 (Q (.bool false) h) (eqC n1 92 (Q (.bool false) h) (gtC n1 32 (Q (.bool (decide (n1 < 127))) h) (Q (.bool false) h))))))
  | _ => False
theorem k_c4 : KE P d_c4 f_c4 0 0 := by
  intro C D hC hD a h Q H
  unfold d_c4 at H
  split at H
  · show EvQ P f_c4 _ h Q
    refine r_c4 ?_
    revert H
    repeat' with_reducible first
 | refine qac ?_
 | refine qav ?_ ?_
 | refine qax ?_ ?_
 | exact id
  · exact H.elim
noncomputable def e_c4 : Ent P := ⟨f_c4, 0, 0, d_c4, k_c4⟩
noncomputable def d_fs : BodyT := fun C D a h Q => match a with
  | [.string s1, .string s2] => C f_ft [.string s1, .string s2] h fun v3 h4 => vBoolE v3 fun b5 => bCE (!b5) (Q (.tuple (Array.mk [.string s1, .bool false])) h4) (nBnd (↑(szE s2) : Int) (szE s1) fun m6 => subK s1 m6 (szE s1) fun s_1 => Q (.tuple (Array.mk [.string s_1, .bool true])) h4)
  | _ => False
theorem k_fs : KE P d_fs f_fs 0 0 := by
  intro C D hC hD a h Q H
  unfold d_fs at H
  split at H
  · show EvQ P f_fs _ h Q
    refine r_fs ?_
    simp only [szE_eq] at H
    revert H
    repeat' with_reducible first
 | refine qaf hC fun _ _ => ?_
 | refine qaj ?_
 | refine qar fun _ => ?_
 | refine qbc fun _ => ?_
 | refine qbo ?_
 | refine qbp ?_
 | refine qbq ?_ ?_
 | exact id
  · exact H.elim
noncomputable def e_fs : Ent P := ⟨f_fs, 0, 0, d_fs, k_fs⟩
end
end Go.Proofs.YtamoepfiodgbbaaGreatDoor.E
end

section
/- Bodies of the functions that Go's library leaves without a text. -/
namespace Go.Proofs.YtamoepfiodgbbaaGreatDoor.E
open Go.Abs
set_option maxRecDepth 100000
theorem evq_one {f : FuncId} {a : List Value} {h h' : AW} {v : Value} {Q : Value → AW → Prop} (hb : bodyOf P f = none) (e : sameV P f a h = some (v, h')) (ha : a ≠ []) (hq : Q v h') : EvQ P f a h Q := by
  refine ⟨v, h', ⟨1, ?_⟩, hq⟩
  unfold callF
  rw [hb]
  simp only
  unfold noBodyV
  rw [e]
def idxE (n : Nat) : List UInt8 → Nat → Int
  | [], _ => -1
  | b :: l, k => match Nat.beq b.toNat n with
    | true => .ofNat k
    | false => idxE n l (k + 1)
theorem idxB_ge (c : UInt8) : ∀ l : List UInt8, -1 ≤ idxB l c
  | [] => Int.le_refl _
  | b :: l => by
    have := idxB_ge c l
    unfold idxB
    simp only [beq_iff_eq]
    split
    · omega
    · split <;> omega
theorem idxE_eq (c : UInt8) : ∀ (l : List UInt8) (k : Nat), idxE c.toNat l k = if idxB l c = -1 then -1 else idxB l c + k
  | [], k => rfl
  | b :: l, k => by
    unfold idxE idxB
    cases hb : Nat.beq b.toNat c.toNat with
    | true =>
      have : b = c := UInt8.toNat_inj.1 (Nat.eq_of_beq_eq_true hb)
      subst this
      simp
    | false =>
      have : b ≠ c := fun e => by subst e; rw [Nat.beq_refl] at hb; cases hb
      have h1 : (b == c) = false := by simpa using this
      rw [h1]
      simp only [Bool.false_eq_true, if_false, beq_iff_eq]
      rw [idxE_eq c l (k + 1)]
      by_cases hx : idxB l c = -1
      · simp [hx]
      · have := idxB_ge c l
        rw [if_neg hx, if_neg hx, if_neg (by omega)]
        omega
theorem idxE_0 (c : UInt8) (l : List UInt8) : idxE c.toNat l 0 = idxB l c := by
  rw [idxE_eq]; split
  · rename_i h; exact h.symm
  · omega
def cntE (n : Nat) : List UInt8 → Nat → Nat
  | [], k => k
  | b :: l, k => match Nat.beq b.toNat n with
    | true => cntE n l (k + 1)
    | false => cntE n l k
theorem cntE_eq (c : UInt8) : ∀ (l : List UInt8) (k : Nat), cntE c.toNat l k = l.count c + k
  | [], k => by simp [cntE]
  | b :: l, k => by
    unfold cntE
    cases hb : Nat.beq b.toNat c.toNat with
    | true =>
      have : b = c := UInt8.toNat_inj.1 (Nat.eq_of_beq_eq_true hb)
      subst this
      simp only [List.count_cons_self]
      rw [cntE_eq]; omega
    | false =>
      have : b ≠ c := fun e => by subst e; rw [Nat.beq_refl] at hb; cases hb
      simp only [List.count_cons_of_ne this]
      rw [cntE_eq]
theorem idx_fn : idxFn P f_bb = true := by kernel_rfl
theorem idx_body : bodyOf P f_bb = none := by kernel_rfl
theorem cnt_fn : cntFn P f_b9 = true := by kernel_rfl
theorem cnt_idx : idxFn P f_b9 = false := by kernel_rfl
theorem cnt_body : bodyOf P f_b9 = none := by kernel_rfl
theorem same_fn : sameFn P f_a0 = true := by kernel_rfl
theorem no_body : bodyOf P f_a0 = none := by kernel_rfl
theorem mnz_fn : mnzFn P f_bf = some ty_uint8 := by kernel_rfl
theorem mnz_body : bodyOf P f_bf = none := by kernel_rfl
def d_idx (_ : CallP) (_ : UnitP) (a : List Value) (h : AW) (Q : Value → AW → Prop) : Prop :=
  match a with
  | [.string s, .int .u8 (.ofNat n)] => match Nat.ble 256 n with
    | true => False
    | false => forceI (idxE n s.data.toList 0) fun z => Q (.int .i64 z) h
  | _ => False
theorem byte_of {n : Nat} (h : Nat.ble 256 n = false) : (Int.ofNat n).toNat.toUInt8.toNat = n := by
  have h1 : ¬ 256 ≤ n := fun hx => by rw [Nat.ble_eq_true_of_le hx] at h; cases h
  show (UInt8.ofNat n).toNat = n
  rw [UInt8.toNat_ofNat']
  omega
theorem k_idx (C : CallP) (D : UnitP) (_ : CLe P C) (_ : DLe P D) : ∀ a h Q, d_idx C D a h Q → GoalE P f_bb 0 0 a h Q := by
  intro a h Q H
  unfold d_idx at H
  split at H
  · rename_i s n
    split at H
    · exact H.elim
    · rename_i hn
      rw [forceI_eq] at H
      show EvQ P f_bb _ h Q
      refine evq_one (v := .int .i64 (idxB s.data.toList (Int.ofNat n).toNat.toUInt8)) (h' := h) idx_body ?_ (by simp) ?_
      · unfold sameV
        simp only
        rw [idx_fn]
      · rw [← idxE_0, byte_of hn]; exact H
  · exact H.elim
noncomputable def e_idx : Ent P := ⟨f_bb, 0, 0, d_idx, fun C D hC hD => k_idx C D hC hD⟩
def d_cnt (_ : CallP) (_ : UnitP) (a : List Value) (h : AW) (Q : Value → AW → Prop) : Prop :=
  match a with
  | [.string s, .int .u8 (.ofNat n)] => match Nat.ble 256 n with
    | true => False
    | false => forceN (cntE n s.data.toList 0) fun z => Q (.int .i64 (.ofNat z)) h
  | _ => False
theorem k_cnt (C : CallP) (D : UnitP) (_ : CLe P C) (_ : DLe P D) : ∀ a h Q, d_cnt C D a h Q → GoalE P f_b9 0 0 a h Q := by
  intro a h Q H
  unfold d_cnt at H
  split at H
  · rename_i s n
    split at H
    · exact H.elim
    · rename_i hn
      rw [forceN_eq] at H
      show EvQ P f_b9 _ h Q
      refine evq_one (v := .int .i64 ((s.data.toList.count (Int.ofNat n).toNat.toUInt8 : Nat) : Int)) (h' := h) cnt_body ?_ (by simp) ?_
      · unfold sameV
        simp only
        rw [cnt_idx]
        simp only
        rw [cnt_fn]
      · have := cntE_eq (Int.ofNat n).toNat.toUInt8 s.data.toList 0
        rw [byte_of hn] at this
        rw [this] at H; exact H
  · exact H.elim
noncomputable def e_cnt : Ent P := ⟨f_b9, 0, 0, d_cnt, fun C D hC hD => k_cnt C D hC hD⟩
def d_same (_ : CallP) (_ : UnitP) (a : List Value) (h : AW) (Q : Value → AW → Prop) : Prop :=
  match a with
  | [.pointer p] => Q (.pointer p) h
  | _ => False
theorem k_same (C : CallP) (D : UnitP) (_ : CLe P C) (_ : DLe P D) : ∀ a h Q, d_same C D a h Q → GoalE P f_a0 0 0 a h Q := by
  intro a h Q H
  unfold d_same at H
  split at H
  · show EvQ P f_a0 _ h Q
    refine evq_one no_body ?_ (by simp) H
    unfold sameV
    simp only
    rw [same_fn]
  · exact H.elim
noncomputable def e_same : Ent P := ⟨f_a0, 0, 0, d_same, fun C D hC hD => k_same C D hC hD⟩
def oNH (x : Option (Nat × AW)) (f : Nat → AW → Prop) : Prop := match x with
  | some (j, h) => f j h
  | none => False
def d_mnz (_ : CallP) (_ : UnitP) (a : List Value) (h : AW) (Q : Value → AW → Prop) : Prop :=
  match a with
  | [.int .i64 (.ofNat n)] => match Nat.ble n 281474976710656 with
    | true => oNH (h.newRow 1 []) fun j h' => Q (.slice (some ⟨j, 0, none⟩) n 0) (h'.tag j ty_uint8)
    | false => False
  | _ => False
theorem k_mnz (C : CallP) (D : UnitP) (_ : CLe P C) (_ : DLe P D) : ∀ a h Q, d_mnz C D a h Q → GoalE P f_bf 0 0 a h Q := by
  intro a h Q H
  unfold d_mnz at H
  split at H
  · split at H
    · rename_i n hn
      show EvQ P f_bf _ h Q
      unfold oNH at H
      split at H
      · rename_i j h' e
        refine evq_one mnz_body ?_ (by simp) H
        unfold sameV
        simp only
        rw [mnz_fn, hn, e]
      · exact H.elim
    · exact H.elim
  · exact H.elim
noncomputable def e_mnz : Ent P := ⟨f_bf, 0, 0, d_mnz, fun C D hC hD => k_mnz C D hC hD⟩
end Go.Proofs.YtamoepfiodgbbaaGreatDoor.E
end

section
/- The reader's next byte, reckoned at once. -/
namespace Go.Proofs.YtamoepfiodgbbaaGreatDoor.E
open Go.Abs
set_option maxRecDepth 100000
variable {h : AW} {Q : Value → AW → Prop}
theorem prefix_ok {s t : ByteArray} (hq : Q (.bool (decide (t.size ≤ s.size) && bEq (bSub s 0 t.size) t)) h) : EvQ P f_f6 [.string s, .string t] h Q := by
  refine r_f6 ?_
  refine r_ft ?_
  by_cases e : t.size ≤ s.size
  · rw [show decide ((s.size : Int) ≥ (t.size : Int)) = true from decide_eq_true (by omega)]
    rw [decide_eq_true e, Bool.true_and] at hq
    simp only [bC_true]
    rw [show natBnd (t.size : Int) s.size = some t.size from by unfold natBnd; show (match Nat.ble t.size s.size with | true => some t.size | false => none) = _; rw [Nat.ble_eq_true_of_le e]]
    simp only [oB_some, vBool_bool]
    exact hq
  · rw [show decide ((s.size : Int) ≥ (t.size : Int)) = false from decide_eq_false (by omega)]
    rw [decide_eq_false e, Bool.false_and] at hq
    simp only [bC_false, vBool_bool]
    exact hq
noncomputable def pkK (s : ByteArray) (k : Nat) (f2 : Prop) (f1 : Nat → Prop) : Prop :=
  List.rec (motive := fun _ => Prop) False (fun b t _ => fN (UInt8.toNat b) fun n => Bool.rec (motive := fun _ => Prop) (f1 n) (List.rec (motive := fun _ => Prop) (f1 n) (fun c _ _ => Bool.rec (motive := fun _ => Prop) (f1 n) f2 (Nat.beq (UInt8.toNat c) 10)) t) (Nat.beq n 92)) (dropE k (datE s))
noncomputable def d_peek (_ : CallP) (_ : UnitP) (a : List Value) (h : AW) (Q : Value → AW → Prop) : Prop :=
  match a with
  | [.pointer p] => aPE p fun i off => rdK h i (off + 1) fun v => vIntE' .i64 v fun n => rdK h i off fun v => vStrE v fun s => eqC n (szE s) (Q (.tuple ⟨[.int .u8 0, .int .i64 0]⟩) h)
      (nIdx n (szE s) fun k => pkK s k (Q (.tuple ⟨[.int .u8 32, .int .i64 2]⟩) h) fun b => Q (.tuple ⟨[.int .u8 (.ofNat b), .int .i64 1]⟩) h)
  | _ => False
theorem aP_get {p : Option Addr} {f : Nat → Nat → Prop} (h : aP p f) : ∃ i off, p = some ⟨i, off, none⟩ ∧ f i off := by
  unfold aP at h
  split at h
  · exact ⟨_, _, rfl, h⟩
  · exact h.elim
theorem k_peek (C : CallP) (D : UnitP) (_ : CLe P C) (_ : DLe P D) : ∀ a h Q, d_peek C D a h Q → GoalE P f_d8 0 0 a h Q := by
  intro a h Q H
  unfold d_peek at H
  split at H
  · rename_i p
    obtain ⟨i, off, ep, H1⟩ := aP_get (qbh (fun _ _ => id) H)
    clear H; subst ep
    obtain ⟨v, e1, H2⟩ := oB_ok (qam (fun _ => id) H1)
    clear H1
    obtain ⟨n, ev, H3⟩ := vInt_ok (qas (fun _ => id) H2)
    clear H2; subst ev
    obtain ⟨v, e2, H4⟩ := oB_ok (qam (fun _ => id) H3)
    clear H3
    obtain ⟨s, es, H⟩ := vStr_ok (qba (fun _ => id) H4)
    clear H4; subst es
    rw [szE_eq] at H
    show EvQ P f_d8 _ h Q
    refine r_d8 ?_
    simp only [aP_some]
    rw [e1, e2]
    simp only [oB_some, vInt_int, vStr_string]
    have H := qax (a' := _) (b' := _) id id H
    rcases bC_ok H with ⟨e, H⟩ | ⟨e, H⟩
    · rw [e, bC_true]; exact H
    · rw [e, bC_false]
      obtain ⟨k, e3, G⟩ := oB_ok (qaq (fun _ => id) H)
      obtain ⟨hk, rfl⟩ : k < s.size ∧ n = (k : Int) := by
        unfold natIdx at e3
        split at e3
        · split at e3
          · rename_i hb
            injection e3 with e3; subst e3
            exact ⟨Nat.le_of_ble_eq_true hb, rfl⟩
          · cases e3
        · cases e3
      rw [show natBnd (k : Int) s.size = some k from by unfold natBnd; show (match Nat.ble k s.size with | true => some k | false => none) = _; rw [Nat.ble_eq_true_of_le (by omega)]]
      simp only [oB_some]
      refine prefix_ok ?_
      simp only [vBool_bool]
      rw [e2]
      simp only [oB_some, vStr_string]
      rw [e1]
      simp only [oB_some, vInt_int]
      rw [e3]
      simp only [oB_some]
      have hsz : s.size = s.data.toList.length := rfl
      have hb : bAt s k = (s.data.toList.drop k).head?.map fun b => (b.toNat : Int) := by
        unfold bAt
        rw [List.head?_drop]
        simp only [Array.getElem?_toList]
        cases s.data[k]? <;> rfl
      have hs : bSub s k s.size = ⟨⟨s.data.toList.drop k⟩⟩ := by
        unfold bSub
        rw [List.take_of_length_le (by rw [List.length_drop, hsz]; exact Nat.le_refl _)]
      unfold pkK at G
      rw [dropE_eq, datE_eq] at G
      rw [hs, hb]
      cases hl : s.data.toList.drop k with
      | nil => rw [hl] at G; exact False.elim G
      | cons b t =>
        rw [hl] at G
        have G : fN (UInt8.toNat b) (fun n => (Bool.rec (motive := fun _ => Prop) (Q (.tuple ⟨[.int .u8 (.ofNat n), .int .i64 1]⟩) h) (List.rec (motive := fun _ => Prop) (Q (.tuple ⟨[.int .u8 (.ofNat n), .int .i64 1]⟩) h) (fun c _ _ => Bool.rec (motive := fun _ => Prop) (Q (.tuple ⟨[.int .u8 (.ofNat n), .int .i64 1]⟩) h) (Q (.tuple ⟨[.int .u8 32, .int .i64 2]⟩) h) (Nat.beq (UInt8.toNat c) 10)) t) (Nat.beq n 92) : Prop)) := G
        rw [fN_eq] at G
        show bC (decide (2 ≤ (b :: t).length) && (((b :: t).drop 0).take (2 - 0) == [92, 10])) _ _
        simp only [Option.map_some, List.head?_cons, oB_some]
        cases t with
        | nil =>
          rw [show decide (2 ≤ [b].length) = false from rfl, Bool.false_and, bC_false]
          cases e92 : Nat.beq (UInt8.toNat b) 92 with
          | false => rw [e92] at G; exact G
          | true => rw [e92] at G; exact G
        | cons c t =>
          rw [show decide (2 ≤ (b :: c :: t).length) = true from decide_eq_true (by simp), Bool.true_and]
          show bC ([b, c] == [92, 10]) _ _
          rw [← lEq_eq]
          show bC (Bool.rec (motive := fun _ => Bool) false (Bool.rec (motive := fun _ => Bool) false true (Nat.beq (UInt8.toNat c) 10)) (Nat.beq (UInt8.toNat b) 92)) _ _
          cases e92 : Nat.beq (UInt8.toNat b) 92 with
          | false => rw [e92] at G; exact G
          | true =>
            rw [e92] at G
            have G : (Bool.rec (motive := fun _ => Prop) (Q (.tuple ⟨[.int .u8 (.ofNat b.toNat), .int .i64 1]⟩) h) (Q (.tuple ⟨[.int .u8 32, .int .i64 2]⟩) h) (Nat.beq (UInt8.toNat c) 10) : Prop) := G
            cases e10 : Nat.beq (UInt8.toNat c) 10 with
            | false => rw [e10] at G; exact G
            | true => rw [e10] at G; exact G
  · exact H.elim
noncomputable def e_peek : Ent P := ⟨f_d8, 0, 0, d_peek, fun C D hC hD => k_peek C D hC hD⟩
noncomputable def d_prefix (_ : CallP) (_ : UnitP) (a : List Value) (h : AW) (Q : Value → AW → Prop) : Prop :=
  match a with
  | [.string s, .string t] => fB (Bool.rec (motive := fun _ => Bool) false (lEq (dropE 0 (datE (bSub s 0 (szE t)))) (datE t)) (Nat.ble (szE t) (szE s))) fun b => Q (.bool b) h
  | _ => False
theorem k_prefix (C : CallP) (D : UnitP) (_ : CLe P C) (_ : DLe P D) : ∀ a h Q, d_prefix C D a h Q → GoalE P f_f6 0 0 a h Q := by
  intro a h Q H
  unfold d_prefix at H
  split at H
  · rename_i s t
    rw [fB_eq, lEq_eq, dropE_eq, datE_eq, datE_eq, szE_eq, szE_eq] at H
    show EvQ P f_f6 _ h Q
    refine prefix_ok ?_
    have hb : Nat.ble t.size s.size = decide (t.size ≤ s.size) := by
      cases h : Nat.ble t.size s.size with
      | true => exact (decide_eq_true (Nat.le_of_ble_eq_true h)).symm
      | false => exact (decide_eq_false fun hx => by rw [Nat.ble_eq_true_of_le hx] at h; cases h).symm
    rw [← hb]
    revert H
    cases Nat.ble t.size s.size with
    | true => exact id
    | false => exact id
  · exact H.elim
noncomputable def e_prefix : Ent P := ⟨f_f6, 0, 0, d_prefix, fun C D hC hD => k_prefix C D hC hD⟩
end Go.Proofs.YtamoepfiodgbbaaGreatDoor.E
end

section
/- The table of bodies. -/
namespace Go.Proofs.YtamoepfiodgbbaaGreatDoor.E
open Go.Abs
noncomputable def tbEv_0 : T (Ent P) := .node (.node (.node (.node .nil none (.node (.node (.node (.node (.node (.node (.node (.node .nil none (.node (.node (.node .nil (some e_cv) .nil) none .nil) none .nil)) none .nil) none .nil) none (.node (.node .nil none (.node .nil none (.node (.node .nil (some e_d1) .nil) none .nil))) none .nil)) none .nil) none .nil) none .nil) none .nil)) none .nil) none (.node (.node (.node (.node (.node (.node (.node (.node (.node (.node (.node .nil none (.node .nil (some e_bt) .nil)) none .nil) none .nil) none (.node .nil none (.node (.node .nil none (.node .nil (some e_a9) .nil)) none .nil))) none .nil) none .nil) none .nil) none .nil) none .nil) none .nil) none (.node (.node (.node (.node (.node (.node .nil none (.node (.node .nil none (.node (.node .nil none (.node .nil (some e_fe) .nil)) none .nil)) none .nil)) none .nil) none .nil) none .nil) none .nil) none .nil))) none (.node (.node (.node (.node (.node (.node (.node (.node (.node (.node (.node (.node .nil none (.node .nil none (.node .nil (some e_e9) .nil))) none (.node .nil none (.node .nil none (.node .nil (some e_a6) .nil)))) none .nil) none (.node (.node (.node (.node .nil (some e_c1) .nil) none .nil) none (.node .nil none (.node .nil (some e_al) .nil))) none .nil)) none (.node (.node .nil none (.node (.node (.node .nil (some e_b8) .nil) none .nil) none .nil)) none (.node .nil none (.node (.node (.node .nil none (.node .nil (some e_eb) .nil)) none .nil) none .nil)))) none .nil) none .nil) none .nil) none .nil) none (.node (.node (.node (.node (.node .nil none (.node .nil none (.node (.node .nil none (.node (.node .nil (some e_dz) .nil) none .nil)) none .nil))) none .nil) none .nil) none .nil) none .nil)) none (.node (.node (.node (.node (.node (.node (.node (.node .nil none (.node .nil none (.node .nil (some e_bk) .nil))) none (.node .nil none (.node (.node .nil none (.node (.node .nil (some e_dq) .nil) none .nil)) none .nil))) none .nil) none .nil) none .nil) none .nil) none .nil) none (.node (.node (.node (.node (.node (.node (.node (.node .nil none (.node (.node (.node .nil (some e_cy) .nil) none .nil) none .nil)) none .nil) none .nil) none .nil) none .nil) none .nil) none .nil) none .nil))) none (.node (.node (.node (.node (.node (.node (.node .nil none (.node (.node .nil none (.node (.node .nil none (.node .nil (some e_fb) .nil)) none .nil)) none .nil)) none .nil) none .nil) none .nil) none .nil) none .nil) none .nil))
noncomputable def tbEv_1 : T (Ent P) := .node (.node (.node (.node .nil none (.node (.node (.node (.node (.node (.node (.node (.node .nil none (.node (.node (.node .nil (some e_cw) .nil) none (.node .nil (some e_cn) .nil)) none .nil)) none .nil) none .nil) none .nil) none .nil) none .nil) none .nil) none .nil)) none (.node (.node (.node (.node (.node (.node (.node (.node (.node (.node .nil none (.node .nil (some e_bs) .nil)) none .nil) none .nil) none .nil) none (.node (.node .nil none (.node (.node .nil none (.node .nil (some e_fd) .nil)) none .nil)) none .nil)) none .nil) none .nil) none .nil) none .nil) none .nil)) none (.node (.node (.node (.node (.node (.node (.node (.node (.node .nil none (.node .nil none (.node .nil none (.node .nil none (.node .nil (some e_ah) .nil))))) none .nil) none (.node .nil none (.node (.node (.node (.node .nil (some e_cj) .nil) (some e_b3) .nil) none .nil) none (.node .nil none (.node (.node (.node (.node .nil (some e_fj) .nil) none .nil) none .nil) none .nil))))) none .nil) none .nil) none .nil) none .nil) none .nil) none .nil)) none (.node (.node (.node (.node (.node (.node (.node (.node (.node .nil none (.node (.node (.node .nil none (.node (.node .nil (some e_d7) .nil) (some e_du) .nil)) none .nil) none .nil)) none (.node .nil none (.node (.node (.node (.node .nil (some e_ci) .nil) none .nil) none .nil) none .nil))) none .nil) none .nil) none .nil) none .nil) none .nil) none .nil) none (.node (.node (.node (.node (.node (.node (.node (.node .nil none (.node .nil none (.node (.node .nil none (.node (.node .nil (some e_dp) .nil) none .nil)) none .nil))) none (.node (.node .nil none (.node (.node .nil none (.node .nil (some e_fc) .nil)) none .nil)) none .nil)) none .nil) none .nil) none .nil) none .nil) none .nil) none .nil))
noncomputable def tbEv_2 : T (Ent P) := .node tbEv_0 none tbEv_1
noncomputable def tbEv_3 : T (Ent P) := .node (.node (.node .nil none (.node (.node (.node .nil (some e_ao) .nil) (some e_d5) .nil) (some e_br) (.node .nil (some e_e8) .nil))) none (.node (.node (.node (.node .nil (some e_f5) .nil) (some e_cu) .nil) (some e_df) (.node .nil (some e_ck) .nil)) none (.node (.node .nil (some e_a3) .nil) none (.node .nil (some e_a5) .nil)))) none (.node (.node (.node (.node .nil (some e_cf) .nil) (some e_b5) (.node (.node .nil (some e_fs) .nil) none .nil)) (some e_cc) (.node (.node .nil (some e_bo) .nil) none (.node .nil (some e_e4) .nil))) none (.node (.node (.node (.node .nil (some e_ft) .nil) (some e_e0) .nil) none .nil) (some e_bj) (.node (.node .nil (some e_a1) .nil) none (.node .nil (some e_af) .nil))))
noncomputable def tbEv_4 : T (Ent P) := .node (.node (.node (.node .nil (some e_c4) .nil) (some e_c0) (.node .nil (some e_ad) .nil)) (some e_b0) (.node (.node .nil (some e_d6) .nil) (some e_dt) (.node .nil (some e_prefix) .nil))) (some e_bn) (.node (.node (.node (.node .nil (some e_dd) .nil) (some e_f3) .nil) none (.node .nil (some e_cr) .nil)) none (.node (.node .nil (some e_ds) .nil) (some e_ak) (.node .nil (some e_fv) .nil)))
noncomputable def tbEv_5 : T (Ent P) := .node tbEv_4 none (.node (.node (.node (.node .nil (some e_bu) .nil) (some e_dg) .nil) (some e_dl) (.node (.node .nil (some e_do) .nil) (some e_a7) (.node .nil (some e_fh) .nil))) (some e_dw) (.node (.node (.node (.node .nil (some e_fu) .nil) (some e_e1) .nil) (some e_e6) (.node .nil (some e_f8) .nil)) (some e_a2) .nil))
noncomputable def tbEv_6 : T (Ent P) := .node tbEv_3 none tbEv_5
noncomputable def tbEv_7 : T (Ent P) := .node (.node (.node .nil (some e_cb) (.node (.node .nil (some e_peek) .nil) (some e_f4) (.node .nil (some e_e2) .nil))) (some e_c3) (.node (.node (.node .nil (some e_di) .nil) none (.node .nil (some e_f2) .nil)) none (.node (.node .nil (some e_fr) .nil) none (.node .nil (some e_am) .nil)))) none (.node (.node (.node (.node .nil (some e_cp) .nil) (some e_b7) (.node (.node .nil (some e_idx) .nil) none .nil)) none (.node (.node (.node .nil (some e_mnz) .nil) (some e_dn) .nil) (some e_fa) (.node .nil (some e_f7) .nil))) none (.node (.node (.node (.node .nil (some e_fw) .nil) none .nil) (some e_d0) (.node .nil (some e_cnt) .nil)) none (.node (.node .nil (some e_fm) .nil) none .nil)))
noncomputable def tbEv_8 : T (Ent P) := .node (.node (.node (.node (.node .nil (some e_e7) .nil) (some e_cg) (.node .nil (some e_aj) .nil)) (some e_b1) (.node .nil none (.node .nil (some e_f9) .nil))) (some e_b4) (.node (.node .nil (some e_dy) (.node .nil (some e_same) .nil)) none (.node (.node .nil (some e_db) .nil) (some e_ab) (.node .nil (some e_dj) .nil)))) none (.node (.node (.node (.node .nil (some e_cs) .nil) (some e_dh) (.node .nil (some e_ea) .nil)) none (.node (.node .nil (some e_dk) .nil) (some e_fk) (.node .nil (some e_a4) .nil))) (some e_bx) (.node (.node (.node (.node .nil (some e_fg) .nil) (some e_e5) .nil) (some e_bq) .nil) none .nil))
noncomputable def tbEv_9 : T (Ent P) := .node tbEv_7 none tbEv_8
noncomputable def tbEv_10 : T (Ent P) := .node tbEv_6 none tbEv_9
noncomputable def tbEv_11 : T (Ent P) := .node tbEv_10 none .nil
noncomputable def tbEv_12 : T (Ent P) := .node tbEv_11 none .nil
noncomputable def tbEv_13 : T (Ent P) := .node tbEv_12 none .nil
noncomputable def tbEv_14 : T (Ent P) := .node tbEv_13 none .nil
noncomputable def tbEv_15 : T (Ent P) := .node tbEv_14 none .nil
noncomputable def tbEv_16 : T (Ent P) := .node tbEv_15 none (.node (.node (.node (.node (.node (.node (.node (.node (.node .nil none (.node (.node .nil none (.node .nil (some e_cl) .nil)) none .nil)) none .nil) none .nil) none .nil) none .nil) none .nil) none .nil) none .nil) none (.node (.node (.node (.node (.node (.node (.node (.node .nil none (.node (.node (.node .nil (some e_cx) .nil) none .nil) none .nil)) none .nil) none .nil) none .nil) none .nil) none .nil) none .nil) none .nil))
noncomputable def tbEv_17 : T (Ent P) := .node tbEv_16 none (.node (.node (.node (.node (.node (.node (.node (.node (.node .nil none (.node (.node .nil (some e_cd) .nil) none .nil)) none (.node (.node (.node (.node .nil none (.node .nil (some e_ae) .nil)) none .nil) none .nil) none (.node .nil (some e_dx) .nil))) none (.node (.node .nil none (.node .nil none (.node .nil none (.node (.node .nil (some e_fp) .nil) none .nil)))) none .nil)) none .nil) none .nil) none .nil) none .nil) none (.node (.node (.node (.node (.node (.node (.node (.node .nil none (.node (.node .nil none (.node .nil (some e_co) .nil)) none .nil)) none .nil) none .nil) none .nil) none .nil) none .nil) none .nil) none .nil)) none .nil)
noncomputable def tbEv_18 : T (Ent P) := .node (.node (.node (.node (.node (.node (.node (.node (.node (.node .nil none (.node (.node .nil none (.node (.node .nil (some e_bp) .nil) none .nil)) none (.node .nil (some e_bl) (.node .nil none (.node .nil (some e_ag) .nil))))) none (.node .nil none (.node (.node (.node (.node .nil (some e_bv) .nil) none .nil) (some e_dm) (.node (.node .nil (some e_dr) .nil) none .nil)) none .nil))) none (.node (.node .nil none (.node (.node (.node (.node .nil (some e_cq) .nil) none .nil) none .nil) none .nil)) none (.node (.node (.node .nil (some e_b2) .nil) none (.node .nil none (.node (.node .nil (some e_dc) .nil) (some e_ac) .nil))) none .nil))) none .nil) none .nil) none .nil) none .nil) none (.node (.node (.node (.node (.node .nil none (.node (.node .nil none (.node .nil none (.node (.node .nil (some e_d2) .nil) none .nil))) none .nil)) none .nil) none .nil) none .nil) none .nil)) none (.node (.node (.node (.node (.node (.node (.node (.node (.node .nil none (.node (.node .nil none (.node .nil (some e_cm) .nil)) none .nil)) none .nil) none .nil) none .nil) none .nil) none .nil) none .nil) none .nil) none .nil)) none (.node (.node (.node (.node (.node (.node (.node .nil none (.node (.node .nil none (.node .nil none (.node .nil none (.node (.node .nil (some e_fn) .nil) none .nil)))) none .nil)) none .nil) none .nil) none .nil) none .nil) none .nil) none .nil)
noncomputable def tbEv_19 : T (Ent P) := .node tbEv_17 none tbEv_18
noncomputable def tbEv_20 : T (Ent P) := .node tbEv_19 none (.node (.node (.node .nil none (.node (.node (.node (.node (.node (.node .nil none (.node (.node .nil none (.node .nil none (.node .nil none (.node (.node .nil (some e_fo) .nil) none .nil)))) none .nil)) none .nil) none .nil) none .nil) none .nil) none .nil)) none (.node (.node (.node (.node (.node (.node (.node (.node (.node (.node .nil none (.node (.node (.node .nil (some e_cz) .nil) none .nil) none .nil)) none (.node .nil none (.node .nil (some e_bm) .nil))) none (.node .nil none (.node (.node .nil none (.node .nil (some e_aa) .nil)) none .nil))) none .nil) none .nil) none .nil) none .nil) none .nil) none .nil) none .nil)) none (.node (.node (.node (.node (.node (.node (.node (.node .nil none (.node (.node (.node .nil none (.node .nil none (.node .nil none (.node .nil (some e_an) .nil)))) none (.node .nil none (.node (.node .nil (some e_d4) .nil) none .nil))) none .nil)) none .nil) none .nil) none .nil) none .nil) none (.node (.node (.node (.node (.node .nil none (.node (.node .nil none (.node .nil none (.node (.node .nil (some e_d3) .nil) none .nil))) none .nil)) none .nil) none .nil) none .nil) none .nil)) none (.node (.node (.node (.node (.node (.node .nil none (.node .nil none (.node (.node (.node (.node .nil (some e_ch) .nil) none .nil) none .nil) none .nil))) none .nil) none .nil) none .nil) none .nil) none .nil)) none (.node (.node (.node (.node (.node (.node (.node (.node .nil none (.node .nil none (.node (.node .nil none (.node .nil (some e_a8) .nil)) none .nil))) none (.node .nil none (.node .nil none (.node .nil none (.node (.node (.node (.node .nil (some e_fi) .nil) none .nil) none .nil) none .nil))))) none .nil) none .nil) none .nil) none .nil) none .nil) none .nil)))
noncomputable def tabEv : T (Ent P) := .node tbEv_2 none tbEv_20
end Go.Proofs.YtamoepfiodgbbaaGreatDoor.E
end

section
/- What a call of a part of the test says. -/
namespace Go.Proofs.YtamoepfiodgbbaaGreatDoor.E
open Go.Abs
set_option maxRecDepth 100000
def h0 : AW := ⟨8, .nil, .nil, .nil, .nil⟩
def res (r v : Value) (_ : AW) : Prop := bCE (sameB v r) True False
theorem fact_ev {f : FuncId} {a : List Value} {r : Value} (hc : (closedOf P f).isSome = true) (H : semR P tabEv 100000 f 0 0 a h0 (res r) = True) : Fact P f a r :=
  fact_of (h0 := h0) hc (EvQ.mono (semR_ok 100000 f 0 0 a h0 (res r) (H.symm ▸ trivial)) fun _ _ e => sameB_eq (bCE_true e).1)
theorem fact_dec {f : FuncId} {k n : Nat} {r : Value} (hc : (closedOf P f).isSome = true) (H : decK k n (fun l => semR P tabEv 100000 f 0 0 [.string ⟨⟨l⟩⟩] h0 (res r)) = True) : Fact P f [.string ⟨⟨decN k n⟩⟩] r :=
  fact_ev hc ((decK_eq k n _).symm.trans H)
end Go.Proofs.YtamoepfiodgbbaaGreatDoor.E
end
