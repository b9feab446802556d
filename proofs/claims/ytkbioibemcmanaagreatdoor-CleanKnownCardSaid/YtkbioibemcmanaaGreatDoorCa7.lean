/- A deterministic heap for the model, proved sound, and walks of the program over it: part 13. No condition. -/
import Derived.Test.YtkbioibemcmanaaGreatDoorCa6
import Derived.Shelf.SlIter.Nil
import Derived.Shelf.SortM.Plain
import Derived.Shelf.SortM.SortNone
import Derived.Ground.GgzProg
import Derived.Ground.SlgmProg
import Derived.Test.YtkbioibemcmanaaGreatDoorProg
import Derived.Maps.RangeRun
import Derived.WalkKit
import Derived.Test.YtkbioibemcmanaaGreatDoorChecked
set_option linter.unusedVariables false
set_option linter.unusedSimpArgs false
set_option linter.unusedSectionVars false
section
/- Bodies that the kernel can run, printed by a program of ours. -/
namespace Go.Proofs.YtkbioibemcmanaaGreatDoor.E
open Go.Abs
set_option maxRecDepth 100000
set_option maxHeartbeats 4000000
section
noncomputable def d_c2 : BodyT := fun C D a h Q => match a with
  | [.func (Fn.func m1) x2 x3, .string s4] => fN m1 fun m1 => ad4 h (iv 0) (.string zS) (iv 0) (iv 0) fun h_1 => C f_fv [.string s4] h_1 fun v5 h6 => vBoolE v5 fun b7 => bCE (!b7) (nxK h fun i_2 => wrLK i_2 [iv 2, .string s4, iv 0, iv 0] h6 0 fun h8 => RI h8 i_2 0 fun n10 => RS h8 i_2 1 fun s12 => RI h8 i_2 2 fun n14 => RI h8 i_2 3 fun n16 => Q (.tuple #[.pointer none, .agg #[iv n10, .string s12, iv n14, iv n16]]) h8) (C m1 (Array.toList x2 ++ .string s4 :: Array.toList x3) h6 fun v17 h18 => vTupE v17 fun l19 => CS l19 fun s22 l21 => CB l21 fun b25 l24 => lNE l24 (bCE (!b25) (nxK h fun i_3 => wrLK i_3 [iv 4, .string s4, iv 0, iv 0] h18 0 fun h26 => RI h26 i_3 0 fun n28 => RS h26 i_3 1 fun s30 => RI h26 i_3 2 fun n32 => RI h26 i_3 3 fun n34 => Q (.tuple #[.pointer none, .agg #[iv n28, .string s30, iv n32, iv n34]]) h26) (addMK h18 fun h_4 => addMK h_4 fun h_5 => nxK h18 fun i_6 => nxK h_4 fun i_7 => ad4 h_5 (.map (some i_6)) (.map (some i_7)) (.slice none 0 0) (.slice none 0 0) fun h_8 => addMK h_8 fun h_9 => nxK h_9 fun i_10 => nxK h_5 fun i_11 => nxK h_8 fun i_12 => ad10 h_9 (.func (Fn.func m1) x2 x3) (.pointer (some ⟨i_11, 0, none⟩)) (.map (some i_12)) (iv 0) (iv 0) (.slice none 0 0) (iv 0) (.string zS) (iv 0) (iv 0) fun h_13 => C f_ds [.pointer (some ⟨i_10, 0, none⟩), .string s4, .string s22] h_13 fun v35 h36 => vBoolE v35 fun b37 => bCE (!b37) (RI h36 i_10 6 fun n39 => RS h36 i_10 7 fun s41 => RI h36 i_10 8 fun n43 => RI h36 i_10 9 fun n45 => nxK h fun i_14 => wrLK i_14 [iv n39, .string s41, iv n43, iv n45] h36 0 fun h46 => RI h46 i_14 0 fun n48 => RS h46 i_14 1 fun s50 => RI h46 i_14 2 fun n52 => RI h46 i_14 3 fun n54 => Q (.tuple #[.pointer none, .agg #[iv n48, .string s50, iv n52, iv n54]]) h46) (RP h36 i_10 1 fun p56 => nxK h fun i_15 => wrLK i_15 [iv 0, .string zS, iv 0, iv 0] h36 0 fun h57 => RI h57 i_15 0 fun n59 => RS h57 i_15 1 fun s61 => RI h57 i_15 2 fun n63 => RI h57 i_15 3 fun n65 => Q (.tuple #[.pointer p56, .agg #[iv n59, .string s61, iv n63, iv n65]]) h57))))
  | _ => False
noncomputable def d_eh : BodyT := fun C D a h Q => match a with
  | [.pointer p1, .string s2, .string s3] => nxK h fun i_1 => ad2 h (.string s2) (.string s3) fun h_2 => C f_ec [.pointer p1, .slice (some ⟨i_1, 0, none⟩) 2 2] h_2 fun v4 h5 => vIntE' .i64 v4 fun n6 => neC n6 0 (Q (iv n6) h5) (GM p1 0 h5 fun p10 => mlK h5 p10 fun l11 => lkS s2 (fun p12 => vMapE (Option.getD p12 (.map none)) fun p13 => muK h5 (.map p13) (.string s3) (.bool true) fun h14 => GM p1 1 h14 fun p18 => mlK h14 p18 fun l19 => lkS s3 (fun p20 => vMapE (Option.getD p20 (.map none)) fun p21 => muK h14 (.map p21) (.string s2) (.bool true) fun h22 => Q (iv 0) h22) l19) l11)
  | _ => False
noncomputable def d_el : BodyT := fun C D a h Q => match a with
  | [.pointer p1] => C f_ez [.pointer p1] h fun v2 h3 => vTupE v2 fun l4 => CS l4 fun s7 l6 => CI l6 fun n10 l9 => lNE l9 (eqC n10 0 (C f_et [.pointer p1, iv 145, .string s7] h3 fun v11 h12 => vBoolE v11 fun b13 => Q (iv n10) h12) (Q (iv n10) h3))
  | _ => False
noncomputable def d_it : BodyT := fun C D a h Q => match a with
  | [.string s1, .string s2] => C f_ix [.string s1, .string s2] h fun v3 h4 => vIntE' .i64 v3 fun n5 => geC n5 0 (nBnd n5 (szE s1) fun m6 => nBnd (wI64 (addI n5 (↑(szE s2) : Int))) (szE s1) fun m7 => subK s1 0 m6 fun s_1 => subK s1 m7 (szE s1) fun s_2 => Q (.tuple #[.string s_1, .string s_2, .bool true]) h4) (Q (.tuple #[.string s1, .string zS, .bool false]) h4)
  | _ => False
noncomputable def d_a1 : BodyT := fun C D a h Q => match a with
  | [.slice p1 m2 m3] => fN m2 fun m2 => fN m3 fun m3 => C f_a2 [.slice p1 m2 m3] h fun v4 h5 => vBoolE v4 fun b6 => bCE (!b6) (Q (.tuple #[.slice none 0 0, iv 2]) h5) (C f_ag [.slice p1 m2 m3] h5 fun v7 h8 => vSlE v7 fun p9 m10 m11 => Q (.tuple #[.slice p9 m10 m11, iv 0]) h8)
  | _ => False
noncomputable def d_ix : BodyT := fun C D a h Q => match a with
  | [.string s1, .string s2] => eqC (↑(szE s2) : Int) 0 (Q (iv 0) h) (bEqC s2 s1 (Q (iv 0) h) (eqC (↑(szE s2) : Int) 1 (nIdx 0 (szE s2) fun m3 => bAtK s2 m3 fun n4 => C f_iy [.string s1, .int .u8 n4] h fun v5 h6 => vIntE' .i64 v5 fun n7 => Q (iv n7) h6) (geC (↑(szE s2) : Int) (↑(szE s1) : Int) (Q (iv (Int.negSucc 0)) h) (RI h 0 0 fun n9 => leC (↑(szE s2) : Int) n9 (leC (↑(szE s1) : Int) 64 (C f_bn [.string s1, .string s2] h fun v10 h11 => vIntE' .i64 v10 fun n12 => Q (iv n12) h11) (nIdx 0 (szE s2) fun m13 => bAtK s2 m13 fun n14 => nIdx 1 (szE s2) fun m15 => bAtK s2 m15 fun n16 => D f_ix 15 12998047184840369899521 [.string s1, .string s2, iv (↑(szE s2) : Int), .int .u8 n14, .int .u8 n16, iv 0, iv (wI64 (addI (wI64 (subI (↑(szE s1) : Int) (↑(szE s2) : Int))) 1)), iv 0] h Q)) (nIdx 0 (szE s2) fun m17 => bAtK s2 m17 fun n18 => nIdx 1 (szE s2) fun m19 => bAtK s2 m19 fun n20 => D f_ix 15 12998047184840369899521 [.string s1, .string s2, iv (↑(szE s2) : Int), .int .u8 n18, .int .u8 n20, iv 0, iv (wI64 (addI (wI64 (subI (↑(szE s1) : Int) (↑(szE s2) : Int))) 1)), iv 0] h Q)))))
  | _ => False
noncomputable def d_iz : BodyT := fun C D a h Q => match a with
  | [.string s1, .string s2, .int .i64 n3, .int .u8 n4, .int .u8 n5, .int .i64 n6, .int .i64 n7, .int .i64 n8] => fI n3 fun n3 => fI n4 fun n4 => fI n5 fun n5 => fI n6 fun n6 => fI n7 fun n7 => fI n8 fun n8 => ltC n6 n7 (nIdx n6 (szE s1) fun m9 => bAtK s1 m9 fun n10 => neC n10 n4 (nBnd n7 (szE s1) fun m11 => nBnd (wI64 (addI n6 1)) m11 fun m12 => subK s1 m12 m11 fun s_1 => C f_iy [.string s_1, .int .u8 n4] h fun v13 h14 => vIntE' .i64 v13 fun n15 => ltC n15 0 (Q (iv (Int.negSucc 0)) h14) (D f_ix 21 12998047184840369899521 [.string s1, .string s2, iv n3, .int .u8 n4, .int .u8 n5, iv (wI64 (addI n6 (wI64 (addI n15 1)))), iv n7, iv n8] h14 Q)) (D f_ix 21 12998047184840369899521 [.string s1, .string s2, iv n3, .int .u8 n4, .int .u8 n5, iv n6, iv n7, iv n8] h Q)) (Q (iv (Int.negSucc 0)) h)
  | _ => False
noncomputable def d_gg : BodyT := fun C D a h Q => match a with
  | [.slice p1 m2 m3] => fN m2 fun m2 => fN m3 fun m3 => bCE (Option.isNone p1) (Q (.slice none 0 0) h) (ad0 h fun h_1 => nxK h fun i_2 => apK ty_api_Word 5 40 h_1 (.slice (some ⟨i_2, 0, none⟩) 0 0) (.slice p1 m2 m3) fun v4 h5 => vSlE v4 fun p6 m7 m8 => Q (.slice p6 m7 m8) h5)
  | _ => False
noncomputable def d_ew : BodyT := fun C D a h Q => match a with
  | [.pointer p1, .string s2] => C f_f2 [.pointer p1, .string s2] h fun v3 h4 => vStrE v3 fun s5 => C f_fy [.string s5] h4 fun v6 h7 => vTupE v6 fun l8 => CS l8 fun s11 l10 => CI l10 fun n14 l13 => lNE l13 (neC n14 0 (C f_et [.pointer p1, iv 141, .string s5] h7 fun v15 h16 => vBoolE v15 fun b17 => Q (.tuple #[.string zS, .bool b17]) h16) (Q (.tuple #[.string s11, .bool true]) h7))
  | _ => False
noncomputable def d_bh : BodyT := fun C D a h Q => match a with
  | [.string s1, .pointer (some ⟨m2, m3, none⟩)] => fN m2 fun m2 => fN m3 fun m3 => RP h m2 m3 fun p5 => C f_fp [.pointer p5, .string s1] h fun v6 h7 => vTupE v6 fun l8 => CS l8 fun s11 l10 => CI l10 fun n14 l13 => lNE l13 (Q (.tuple #[.string s11, .bool (n14 == 0)]) h7)
  | _ => False
noncomputable def d_ee : BodyT := fun C D a h Q => match a with
  | [.pointer p1] => C f_ei [.pointer p1] h fun v2 h3 => vSlE v2 fun p4 m5 m6 => D f_ee 3 13205961183233 [.pointer p1, .slice none 0 0, .slice p4 m5 m6, iv (↑m5 : Int), iv 0] h3 Q
  | _ => False
noncomputable def d_ef : BodyT := fun C D a h Q => match a with
  | [.pointer p1, .slice p2 m3 m4, .slice p5 m6 m7, .int .i64 n8, .int .i64 n9] => fN m3 fun m3 => fN m4 fun m4 => fN m6 fun m6 => fN m7 fun m7 => fI n8 fun n8 => fI n9 fun n9 => ltC n9 n8 (XS p5 n9 m6 1 h fun s14 => C f_ej [.pointer p1, .string s14] h fun v15 h16 => vSlE v15 fun p17 m18 m19 => D f_ee 6 24200968399196201485864961 [.pointer p1, .slice p2 m3 m4, .string s14, .slice p5 m6 m7, iv n8, iv n9, .slice p17 m18 m19, iv (↑m18 : Int), iv 0] h16 Q) (Q (.slice p2 m3 m4) h)
  | _ => False
noncomputable def d_eg : BodyT := fun C D a h Q => match a with
  | [.pointer p1, .slice p2 m3 m4, .string s5, .slice p6 m7 m8, .int .i64 n9, .int .i64 n10, .slice p11 m12 m13, .int .i64 n14, .int .i64 n15] => fN m3 fun m3 => fN m4 fun m4 => fN m7 fun m7 => fN m8 fun m8 => fI n9 fun n9 => fI n10 fun n10 => fN m12 fun m12 => fN m13 fun m13 => fI n14 fun n14 => fI n15 fun n15 => ltC n15 n14 (XS p11 n15 m12 1 h fun s20 => ad2 h (.string s5) (.string s20) fun h_1 => nxK h fun i_2 => apK ty_api_Edge 2 32 h_1 (.slice p2 m3 m4) (.slice (some ⟨i_2, 0, none⟩) 1 1) fun v21 h22 => vSlE v21 fun p23 m24 m25 => D f_ee 6 24200968399196201485864961 [.pointer p1, .slice p23 m24 m25, .string s5, .slice p6 m7 m8, iv n9, iv n10, .slice p11 m12 m13, iv n14, iv (wI64 (addI n15 1))] h22 Q) (D f_ee 3 13205961183233 [.pointer p1, .slice p2 m3 m4, .slice p6 m7 m8, iv n9, iv (wI64 (addI n10 1))] h Q)
  | _ => False
noncomputable def d_gw : BodyT := fun C D a h Q => match a with
  | [.slice p1 m2 m3, .string s4] => fN m2 fun m2 => fN m3 fun m3 => D f_gw 2 9672067073 [.slice p1 m2 m3, .string s4, iv (↑m2 : Int), iv 0] h Q
  | _ => False
noncomputable def d_gx : BodyT := fun C D a h Q => match a with
  | [.slice p1 m2 m3, .string s4, .int .i64 n5, .int .i64 n6] => fN m2 fun m2 => fN m3 fun m3 => fI n5 fun n5 => fI n6 fun n6 => ltC n6 n5 (XS p1 n6 m2 1 h fun s11 => bEqC s4 s11 (Q (iv n6) h) (D f_gw 2 9672067073 [.slice p1 m2 m3, .string s4, iv n5, iv (wI64 (addI n6 1))] h Q)) (Q (iv (Int.negSucc 0)) h)
  | _ => False
noncomputable def d_g2 : BodyT := fun C D a h Q => match a with
  | [.int .u8 n1] => fI n1 fun n1 => geC n1 97 (leC n1 122 (Q (.bool true) h) (geC n1 48 (leC n1 57 (Q (.bool true) h) (eqC n1 95 (Q (.bool true) h) (eqC n1 46 (Q (.bool true) h) (eqC n1 45 (Q (.bool true) h) (Q (.bool false) h))))) (eqC n1 95 (Q (.bool true) h) (eqC n1 46 (Q (.bool true) h) (eqC n1 45 (Q (.bool true) h) (Q (.bool false) h)))))) (geC n1 48 (leC n1 57 (Q (.bool true) h) (eqC n1 95 (Q (.bool true) h) (eqC n1 46 (Q (.bool true) h) (eqC n1 45 (Q (.bool true) h) (Q (.bool false) h))))) (eqC n1 95 (Q (.bool true) h) (eqC n1 46 (Q (.bool true) h) (eqC n1 45 (Q (.bool true) h) (Q (.bool false) h)))))
  | _ => False
noncomputable def d_fl : BodyT := fun C D a h Q => match a with
  | [.pointer p1, .int .u8 n2] => fI n2 fun n2 => C f_fn [.pointer p1] h fun v3 h4 => GL p1 1 h4 fun p8 m9 m10 => ad1 h4 (.int .u8 n2) fun h_1 => nxK h4 fun i_2 => apK ty_uint8 1 1 h_1 (.slice p8 m9 m10) (.slice (some ⟨i_2, 0, none⟩) 1 1) fun v11 h12 => vSlE v11 fun p13 m14 m15 => WF p1 1 h12 (.slice p13 m14 m15) fun h18 => Q .nilIface h18
  | _ => False
noncomputable def d_c3 : BodyT := fun C D a h Q => match a with
  | [.slice p1 m2 m3] => fN m2 fun m2 => fN m3 fun m3 => C f_gf [.slice p1 m2 m3] h fun v4 h5 => vSlE v4 fun p6 m7 m8 => D f_c3 3 10494980 [.slice p6 m7 m8, iv (↑m7 : Int), iv 0] h5 Q
  | _ => False
noncomputable def d_c4 : BodyT := fun C D a h Q => match a with
  | [.slice p1 m2 m3, .int .i64 n4, .int .i64 n5] => fN m2 fun m2 => fN m3 fun m3 => fI n4 fun n4 => fI n5 fun n5 => ltC n5 n4 (aPE p1 fun m6 m7 => nIdx n5 m2 fun m8 => RL h m6 (m7 + m8 * 4 + 1) fun p10 m11 m12 => C f_gh [.slice p10 m11 m12] h fun v13 h14 => vSlE v13 fun p15 m16 m17 => aPE p1 fun m18 m19 => nIdx n5 m2 fun m20 => RL h14 m18 (m19 + m20 * 4 + 3) fun p22 m23 m24 => C f_c3 [.slice p22 m23 m24] h14 fun v25 h26 => vSlE v25 fun p27 m28 m29 => aPE p1 fun m30 m31 => nIdx n5 m2 fun m32 => wrK h26 m30 (m31 + m32 * 4 + 1) (.slice p15 m16 m17) fun h33 => aPE p1 fun m34 m35 => nIdx n5 m2 fun m36 => wrK h33 m34 (m35 + m36 * 4 + 3) (.slice p27 m28 m29) fun h37 => RL h m18 (m19 + m20 * 4 + 3) fun p39 m40 m41 => bCE (sameB (.slice p39 m40 m41) (.slice p22 m23 m24)) (D f_c3 3 10494980 [.slice p1 m2 m3, iv n4, iv (wI64 (addI n5 1))] h37 Q) False) (Q (.slice p1 m2 m3) h)
  | _ => False
noncomputable def d_ex : BodyT := fun C D a h Q => match a with
  | [.pointer p1, .int .i64 n2] => fI n2 fun n2 => GI p1 2 h fun n6 => GI p1 3 h fun n10 => gtC n2 (wI64 (subI n6 n10)) (GI p1 2 h fun n14 => WF p1 3 h (iv n14) fun h17 => C f_et [.pointer p1, iv 143, .string zS] h17 fun v18 h19 => vBoolE v18 fun b20 => Q (.bool b20) h19) (GI p1 3 h fun n24 => aPE p1 fun m25 m26 => wrK h m25 (m26 + 3) (iv (wI64 (addI n24 n2))) fun h27 => Q (.bool true) h27)
  | _ => False
theorem kk_ev10 : (KE P d_c2 f_c2 0 0) ∧ (KE P d_eh f_eh 0 0) ∧ (KE P d_el f_el 0 0) ∧ (KE P d_it f_it 0 0) ∧ (KE P d_a1 f_a1 0 0) ∧ (KE P d_ix f_ix 0 0) ∧ (KE P d_iz f_ix 16 12998047184840369899521) ∧ (KE P d_gg f_gg 0 0) ∧ (KE P d_ew f_ew 0 0) ∧ (KE P d_bh f_bh 0 0) ∧ (KE P d_ee f_ee 0 0) ∧ (KE P d_ef f_ee 4 13205961183233) ∧ (KE P d_eg f_ee 7 24200968399196201485864961) ∧ (KE P d_gw f_gw 0 0) ∧ (KE P d_gx f_gw 3 9672067073) ∧ (KE P d_g2 f_g2 0 0) ∧ (KE P d_fl f_fl 0 0) ∧ (KE P d_c3 f_c3 0 0) ∧ (KE P d_c4 f_c3 4 10494980) ∧ (KE P d_ex f_ex 0 0) := by
  refine ⟨?a0, ?a1, ?a2, ?a3, ?a4, ?a5, ?a6, ?a7, ?a8, ?a9, ?a10, ?a11, ?a12, ?a13, ?a14, ?a15, ?a16, ?a17, ?a18, ?a19⟩
  all_goals intro C D hC hD a h Q H
  case' a0 => unfold d_c2 at H; split at H; refine r_c2 ?_
  case' a1 => unfold d_eh at H; split at H; refine r_eh ?_
  case' a2 => unfold d_el at H; split at H; refine r_el ?_
  case' a3 => unfold d_it at H; split at H; refine r_it ?_
  case' a4 => unfold d_a1 at H; split at H; refine r_a1 ?_
  case' a5 => unfold d_ix at H; split at H; refine r_ix ?_
  case' a6 => unfold d_iz at H; split at H; refine r_iz ?_
  case' a7 => unfold d_gg at H; split at H; refine r_gg ?_
  case' a8 => unfold d_ew at H; split at H; refine r_ew ?_
  case' a9 => unfold d_bh at H; split at H; refine r_bh ?_
  case' a10 => unfold d_ee at H; split at H; refine r_ee ?_
  case' a11 => unfold d_ef at H; split at H; refine r_ef ?_
  case' a12 => unfold d_eg at H; split at H; refine r_eg ?_
  case' a13 => unfold d_gw at H; split at H; refine r_gw ?_
  case' a14 => unfold d_gx at H; split at H; refine r_gx ?_
  case' a15 => unfold d_g2 at H; split at H; refine r_g2 ?_
  case' a16 => unfold d_fl at H; split at H; refine r_fl ?_
  case' a17 => unfold d_c3 at H; split at H; refine r_c3 ?_
  case' a18 => unfold d_c4 at H; split at H; refine r_c4 ?_
  case' a19 => unfold d_ex at H; split at H; refine r_ex ?_
  all_goals try exact H.elim
  all_goals try simp only [wI64_eq, addI_eq, szE_eq, subI_eq] at H
  all_goals revert H
  all_goals repeat' with_reducible first
 | refine qbs ti_ty_graph_set rfl ti_ty_string rfl fun _ => ?_
 | refine qbr ti_ty_sl_api_Word rfl ti_ty_api_Word rfl rfl rfl ti_ty_sl_api_Word rfl fun _ _ => ?_
 | refine qbr ti_ty_sl_api_Edge rfl ti_ty_api_Edge rfl rfl rfl ti_ty_sl_api_Edge rfl fun _ _ => ?_
 | refine qbr ti_ty_sl_uint8 rfl ti_ty_uint8 rfl rfl rfl ti_ty_sl_uint8 rfl fun _ _ => ?_
 | refine qaa fun _ => ?_
 | refine qab fun _ => ?_
 | refine qac ?_
 | refine qad ?_
 | refine qaf hC fun _ _ => ?_
 | refine qag hD (by decide)
 | refine qah (by with_unfolding_all rfl) (by with_unfolding_all rfl) ?_
 | refine qai ?_
 | refine qaj ?_
 | refine qak ?_
 | refine qam fun _ => ?_
 | refine qan fun _ => ?_
 | refine qao fun _ => ?_
 | refine qap fun _ => ?_
 | refine qaq fun _ => ?_
 | refine qar fun _ => ?_
 | refine qas fun _ => ?_
 | refine qat ?_ ?_
 | refine qau ?_ ?_
 | refine qav ?_ ?_
 | refine qaw ?_ ?_
 | refine qax ?_ ?_
 | refine qay ?_ ?_
 | refine qaz ?_ ?_
 | refine qba fun _ => ?_
 | refine qbb fun _ _ _ => ?_
 | refine qbc fun _ => ?_
 | refine qbd fun _ _ => ?_
 | refine qbe ?_
 | refine qbf fun _ => ?_
 | refine qbh fun _ _ => ?_
 | refine qbi fun _ => ?_
 | refine qbl fun _ => ?_
 | refine qbo ?_
 | refine qbp ?_
 | refine qbq ?_ ?_
 | exact id
noncomputable def e_c2 := en kk_ev10.1
noncomputable def e_eh := en kk_ev10.2.1
noncomputable def e_el := en kk_ev10.2.2.1
noncomputable def e_it := en kk_ev10.2.2.2.1
noncomputable def e_a1 := en kk_ev10.2.2.2.2.1
noncomputable def e_ix := en kk_ev10.2.2.2.2.2.1
noncomputable def e_iz := en kk_ev10.2.2.2.2.2.2.1
noncomputable def e_gg := en kk_ev10.2.2.2.2.2.2.2.1
noncomputable def e_ew := en kk_ev10.2.2.2.2.2.2.2.2.1
noncomputable def e_bh := en kk_ev10.2.2.2.2.2.2.2.2.2.1
noncomputable def e_ee := en kk_ev10.2.2.2.2.2.2.2.2.2.2.1
noncomputable def e_ef := en kk_ev10.2.2.2.2.2.2.2.2.2.2.2.1
noncomputable def e_eg := en kk_ev10.2.2.2.2.2.2.2.2.2.2.2.2.1
noncomputable def e_gw := en kk_ev10.2.2.2.2.2.2.2.2.2.2.2.2.2.1
noncomputable def e_gx := en kk_ev10.2.2.2.2.2.2.2.2.2.2.2.2.2.2.1
noncomputable def e_g2 := en kk_ev10.2.2.2.2.2.2.2.2.2.2.2.2.2.2.2.1
noncomputable def e_fl := en kk_ev10.2.2.2.2.2.2.2.2.2.2.2.2.2.2.2.2.1
noncomputable def e_c3 := en kk_ev10.2.2.2.2.2.2.2.2.2.2.2.2.2.2.2.2.2.1
noncomputable def e_c4 := en kk_ev10.2.2.2.2.2.2.2.2.2.2.2.2.2.2.2.2.2.2.1
noncomputable def e_ex := en kk_ev10.2.2.2.2.2.2.2.2.2.2.2.2.2.2.2.2.2.2.2
end
end Go.Proofs.YtkbioibemcmanaaGreatDoor.E
end

section
/- Bodies that the kernel can run, printed by a program of ours. -/
namespace Go.Proofs.YtkbioibemcmanaaGreatDoor.E
open Go.Abs
set_option maxRecDepth 100000
set_option maxHeartbeats 4000000
section
noncomputable def d_i6 : BodyT := fun C D a h Q => match a with
  | [.string s1, .string s2] => C f_iu [.string s1, .string s2] h fun v3 h4 => vTupE v3 fun l5 => CS l5 fun s8 l7 => CB l7 fun b11 l10 => lNE l10 (Q (.tuple #[.string s8, .bool b11]) h4)
  | _ => False
noncomputable def d_ad : BodyT := fun C D a h Q => match a with
  | [.int .i64 n1, .int .i64 n2] => fI n1 fun n1 => fI n2 fun n2 => eqC n1 1 (Q (.bool (n2 == 1)) h) (eqC n1 2 (Q (.bool (n2 == 1)) h) (eqC n1 8 (Q (.bool (n2 == 1)) h) (eqC n1 11 (Q (.bool (n2 == 1)) h) (D f_ad 7 6146 [iv n2, iv n1] h Q))))
  | _ => False
noncomputable def d_af : BodyT := fun C D a h Q => match a with
  | [.int .i64 n1, .int .i64 n2] => fI n1 fun n1 => fI n2 fun n2 => eqC n2 3 (Q (.bool true) h) (eqC n2 9 (Q (.bool true) h) (D f_ad 10 6146 [iv n1, iv n2] h Q))
  | _ => False
noncomputable def d_ae : BodyT := fun C D a h Q => match a with
  | [.int .i64 n1, .int .i64 n2] => fI n1 fun n1 => fI n2 fun n2 => eqC n2 12 (Q (.bool (n1 == 2)) h) (Q (.bool (n1 == 0)) h)
  | _ => False
theorem kk_ev11 : (KE P d_i6 f_i6 0 0) ∧ (KE P d_ad f_ad 0 0) ∧ (KE P d_af f_ad 8 6146) ∧ (KE P d_ae f_ad 11 6146) := by
  refine ⟨?a0, ?a1, ?a2, ?a3⟩
  all_goals intro C D hC hD a h Q H
  case' a0 => unfold d_i6 at H; split at H; refine r_i6 ?_
  case' a1 => unfold d_ad at H; split at H; refine r_ad ?_
  case' a2 => unfold d_af at H; split at H; refine r_af ?_
  case' a3 => unfold d_ae at H; split at H; refine r_ae ?_
  all_goals try exact H.elim
  all_goals revert H
  all_goals repeat' with_reducible first
 | refine qac ?_
 | refine qaf hC fun _ _ => ?_
 | refine qag hD (by decide)
 | refine qax ?_ ?_
 | refine qba fun _ => ?_
 | refine qbc fun _ => ?_
 | refine qbd fun _ _ => ?_
 | refine qbe ?_
 | refine qbf fun _ => ?_
 | exact id
noncomputable def e_i6 := en kk_ev11.1
noncomputable def e_ad := en kk_ev11.2.1
noncomputable def e_af := en kk_ev11.2.2.1
noncomputable def e_ae := en kk_ev11.2.2.2
end
end Go.Proofs.YtkbioibemcmanaaGreatDoor.E
end

section
/- Bodies of the functions that Go's library leaves without a text. -/
namespace Go.Proofs.YtkbioibemcmanaaGreatDoor.E
open Go.Abs
set_option maxRecDepth 100000
theorem evq_one {f : FuncId} {a : List Value} {h h' : AW} {v : Value} {Q : Value → AW → Prop} (hb : bodyOf P f = none) (e : sameV P f a h = some (v, h')) (ha : a ≠ []) (hq : Q v h') : EvQ P f a h Q := by
  refine ⟨v, h', ⟨1, ?_⟩, hq⟩
  unfold callF
  rw [hb]
  simp only
  unfold noBodyV
  rw [e]
def idxE (n : Nat) : List UInt8 → Nat → Int
  | [], _ => -1
  | b :: l, k => match Nat.beq b.toNat n with
    | true => .ofNat k
    | false => idxE n l (k + 1)
theorem idxB_ge (c : UInt8) : ∀ l : List UInt8, -1 ≤ idxB l c
  | [] => Int.le_refl _
  | b :: l => by
    have := idxB_ge c l
    unfold idxB
    simp only [beq_iff_eq]
    split
    · omega
    · split <;> omega
theorem idxE_eq (c : UInt8) : ∀ (l : List UInt8) (k : Nat), idxE c.toNat l k = if idxB l c = -1 then -1 else idxB l c + k
  | [], k => rfl
  | b :: l, k => by
    unfold idxE idxB
    cases hb : Nat.beq b.toNat c.toNat with
    | true =>
      have : b = c := UInt8.toNat_inj.1 (Nat.eq_of_beq_eq_true hb)
      subst this
      simp
    | false =>
      have : b ≠ c := fun e => by subst e; rw [Nat.beq_refl] at hb; cases hb
      have h1 : (b == c) = false := by simpa using this
      rw [h1]
      simp only [Bool.false_eq_true, if_false, beq_iff_eq]
      rw [idxE_eq c l (k + 1)]
      by_cases hx : idxB l c = -1
      · simp [hx]
      · have := idxB_ge c l
        rw [if_neg hx, if_neg hx, if_neg (by omega)]
        omega
theorem idxE_0 (c : UInt8) (l : List UInt8) : idxE c.toNat l 0 = idxB l c := by
  rw [idxE_eq]; split
  · rename_i h; exact h.symm
  · omega
def cntE (n : Nat) : List UInt8 → Nat → Nat
  | [], k => k
  | b :: l, k => match Nat.beq b.toNat n with
    | true => cntE n l (k + 1)
    | false => cntE n l k
theorem cntE_eq (c : UInt8) : ∀ (l : List UInt8) (k : Nat), cntE c.toNat l k = l.count c + k
  | [], k => by simp [cntE]
  | b :: l, k => by
    unfold cntE
    cases hb : Nat.beq b.toNat c.toNat with
    | true =>
      have : b = c := UInt8.toNat_inj.1 (Nat.eq_of_beq_eq_true hb)
      subst this
      simp only [List.count_cons_self]
      rw [cntE_eq]; omega
    | false =>
      have : b ≠ c := fun e => by subst e; rw [Nat.beq_refl] at hb; cases hb
      simp only [List.count_cons_of_ne this]
      rw [cntE_eq]
theorem idx_fn : idxFn P f_bl = true := by kernel_rfl
theorem idx_body : bodyOf P f_bl = none := by kernel_rfl
theorem cnt_fn : cntFn P f_bj = true := by kernel_rfl
theorem cnt_idx : idxFn P f_bj = false := by kernel_rfl
theorem cnt_body : bodyOf P f_bj = none := by kernel_rfl
theorem same_fn : sameFn P f_a0 = true := by kernel_rfl
theorem no_body : bodyOf P f_a0 = none := by kernel_rfl
theorem mnz_fn : mnzFn P f_bp = some ty_uint8 := by kernel_rfl
theorem mnz_body : bodyOf P f_bp = none := by kernel_rfl
def d_idx (_ : CallP) (_ : UnitP) (a : List Value) (h : AW) (Q : Value → AW → Prop) : Prop :=
  match a with
  | [.string s, .int .u8 (.ofNat n)] => match Nat.ble 256 n with
    | true => False
    | false => forceI (idxE n s.data.toList 0) fun z => Q (.int .i64 z) h
  | _ => False
theorem byte_of {n : Nat} (h : Nat.ble 256 n = false) : (Int.ofNat n).toNat.toUInt8.toNat = n := by
  have h1 : ¬ 256 ≤ n := fun hx => by rw [Nat.ble_eq_true_of_le hx] at h; cases h
  show (UInt8.ofNat n).toNat = n
  rw [UInt8.toNat_ofNat']
  omega
theorem k_idx (C : CallP) (D : UnitP) (_ : CLe P C) (_ : DLe P D) : ∀ a h Q, d_idx C D a h Q → GoalE P f_bl 0 0 a h Q := by
  intro a h Q H
  unfold d_idx at H
  split at H
  · rename_i s n
    split at H
    · exact H.elim
    · rename_i hn
      rw [forceI_eq] at H
      show EvQ P f_bl _ h Q
      refine evq_one (v := .int .i64 (idxB s.data.toList (Int.ofNat n).toNat.toUInt8)) (h' := h) idx_body ?_ (by simp) ?_
      · unfold sameV
        simp only
        rw [idx_fn]
      · rw [← idxE_0, byte_of hn]; exact H
  · exact H.elim
noncomputable def e_idx : Ent P := ⟨f_bl, 0, 0, d_idx, fun C D hC hD => k_idx C D hC hD⟩
def d_cnt (_ : CallP) (_ : UnitP) (a : List Value) (h : AW) (Q : Value → AW → Prop) : Prop :=
  match a with
  | [.string s, .int .u8 (.ofNat n)] => match Nat.ble 256 n with
    | true => False
    | false => forceN (cntE n s.data.toList 0) fun z => Q (.int .i64 (.ofNat z)) h
  | _ => False
theorem k_cnt (C : CallP) (D : UnitP) (_ : CLe P C) (_ : DLe P D) : ∀ a h Q, d_cnt C D a h Q → GoalE P f_bj 0 0 a h Q := by
  intro a h Q H
  unfold d_cnt at H
  split at H
  · rename_i s n
    split at H
    · exact H.elim
    · rename_i hn
      rw [forceN_eq] at H
      show EvQ P f_bj _ h Q
      refine evq_one (v := .int .i64 ((s.data.toList.count (Int.ofNat n).toNat.toUInt8 : Nat) : Int)) (h' := h) cnt_body ?_ (by simp) ?_
      · unfold sameV
        simp only
        rw [cnt_idx]
        simp only
        rw [cnt_fn]
      · have := cntE_eq (Int.ofNat n).toNat.toUInt8 s.data.toList 0
        rw [byte_of hn] at this
        rw [this] at H; exact H
  · exact H.elim
noncomputable def e_cnt : Ent P := ⟨f_bj, 0, 0, d_cnt, fun C D hC hD => k_cnt C D hC hD⟩
def d_same (_ : CallP) (_ : UnitP) (a : List Value) (h : AW) (Q : Value → AW → Prop) : Prop :=
  match a with
  | [.pointer p] => Q (.pointer p) h
  | _ => False
theorem k_same (C : CallP) (D : UnitP) (_ : CLe P C) (_ : DLe P D) : ∀ a h Q, d_same C D a h Q → GoalE P f_a0 0 0 a h Q := by
  intro a h Q H
  unfold d_same at H
  split at H
  · show EvQ P f_a0 _ h Q
    refine evq_one no_body ?_ (by simp) H
    unfold sameV
    simp only
    rw [same_fn]
  · exact H.elim
noncomputable def e_same : Ent P := ⟨f_a0, 0, 0, d_same, fun C D hC hD => k_same C D hC hD⟩
def oNH (x : Option (Nat × AW)) (f : Nat → AW → Prop) : Prop := match x with
  | some (j, h) => f j h
  | none => False
def d_mnz (_ : CallP) (_ : UnitP) (a : List Value) (h : AW) (Q : Value → AW → Prop) : Prop :=
  match a with
  | [.int .i64 (.ofNat n)] => match Nat.ble n 281474976710656 with
    | true => oNH (h.newRow 1 []) fun j h' => Q (.slice (some ⟨j, 0, none⟩) n 0) (h'.tag j ty_uint8)
    | false => False
  | _ => False
theorem k_mnz (C : CallP) (D : UnitP) (_ : CLe P C) (_ : DLe P D) : ∀ a h Q, d_mnz C D a h Q → GoalE P f_bp 0 0 a h Q := by
  intro a h Q H
  unfold d_mnz at H
  split at H
  · split at H
    · rename_i n hn
      show EvQ P f_bp _ h Q
      unfold oNH at H
      split at H
      · rename_i j h' e
        refine evq_one mnz_body ?_ (by simp) H
        unfold sameV
        simp only
        rw [mnz_fn, hn, e]
      · exact H.elim
    · exact H.elim
  · exact H.elim
noncomputable def e_mnz : Ent P := ⟨f_bp, 0, 0, d_mnz, fun C D hC hD => k_mnz C D hC hD⟩
end Go.Proofs.YtkbioibemcmanaaGreatDoor.E
end

section
/- The sorted keys of maps: the library's contracts at this program. -/
namespace Go.Proofs
open Go.RowKit Go.Maps Go.Sort Go.Shelf
def Tryz.keys27_ren : Go.Shelf.Ren := ⟨fun | 7 => 27 | 10 => 46 | n => n, fun | 23 => 70 | 26 => 9 | 3 => 79 | 28 => 77 | 0 => 0 | 27 => 76 | 33 => 68 | 4 => 4 | n => n, fun | n => n⟩
theorem Tryz.keys27 : Go.Proofs.SlLaysZ.n7 Tryz.prog Tryz.keys27_ren := {
  mixed := by kernel_rfl
  f7 := ⟨Tryz.f27.name, by decide, Tryz.func27.trans (congrArg some (by kernel_rfl))⟩
  f10 := ⟨Tryz.f46.name, by decide, Tryz.func46.trans (congrArg some (by kernel_rfl))⟩
  t0 := Tryz.underlying0
  a0 := Tryz.isAgg0
  z0 := Tryz.sizeOf0
  v0 := Tryz.zeroValue0
  t4 := Tryz.underlying4
  a4 := Tryz.isAgg4
  z4 := Tryz.sizeOf4
  v4 := Tryz.zeroValue4
  t23 := Tryz.underlying70
  a23 := Tryz.isAgg70
  z23 := Tryz.sizeOf70
  v23 := Tryz.zeroValue70
  t26 := Tryz.underlying9
  a26 := Tryz.isAgg9
  z26 := Tryz.sizeOf9
  v26 := Tryz.zeroValue9
  t27 := Tryz.underlying76
  a27 := Tryz.isAgg76
  z27 := Tryz.sizeOf76
  v27 := Tryz.zeroValue76
  t28 := Tryz.underlying77
  a28 := Tryz.isAgg77
  z28 := Tryz.sizeOf77
  v28 := Tryz.zeroValue77
  t33 := Tryz.underlying68
  a33 := Tryz.isAgg68
  z33 := Tryz.sizeOf68
  v33 := Tryz.zeroValue68 }
def Tryz.keys33_ren : Go.Shelf.Ren := ⟨fun | 7 => 33 | 10 => 58 | n => n, fun | 23 => 71 | 26 => 9 | 3 => 4 | 28 => 77 | 0 => 0 | 27 => 76 | 33 => 68 | 4 => 4 | n => n, fun | n => n⟩
theorem Tryz.keys33 : Go.Proofs.SlLaysZ.n7 Tryz.prog Tryz.keys33_ren := {
  mixed := by kernel_rfl
  f7 := ⟨Tryz.f33.name, by decide, Tryz.func33.trans (congrArg some (by kernel_rfl))⟩
  f10 := ⟨Tryz.f58.name, by decide, Tryz.func58.trans (congrArg some (by kernel_rfl))⟩
  t0 := Tryz.underlying0
  a0 := Tryz.isAgg0
  z0 := Tryz.sizeOf0
  v0 := Tryz.zeroValue0
  t4 := Tryz.underlying4
  a4 := Tryz.isAgg4
  z4 := Tryz.sizeOf4
  v4 := Tryz.zeroValue4
  t23 := Tryz.underlying71
  a23 := Tryz.isAgg71
  z23 := Tryz.sizeOf71
  v23 := Tryz.zeroValue71
  t26 := Tryz.underlying9
  a26 := Tryz.isAgg9
  z26 := Tryz.sizeOf9
  v26 := Tryz.zeroValue9
  t27 := Tryz.underlying76
  a27 := Tryz.isAgg76
  z27 := Tryz.sizeOf76
  v27 := Tryz.zeroValue76
  t28 := Tryz.underlying77
  a28 := Tryz.isAgg77
  z28 := Tryz.sizeOf77
  v28 := Tryz.zeroValue77
  t33 := Tryz.underlying68
  a33 := Tryz.isAgg68
  z33 := Tryz.sizeOf68
  v33 := Tryz.zeroValue68 }
def Tryz.keys127_ren : Go.Shelf.Ren := ⟨fun | 7 => 127 | 10 => 176 | n => n, fun | 23 => 132 | 26 => 9 | 3 => 136 | 28 => 77 | 0 => 0 | 27 => 76 | 33 => 68 | 4 => 4 | n => n, fun | n => n⟩
theorem Tryz.keys127 : Go.Proofs.SlLaysZ.n7 Tryz.prog Tryz.keys127_ren := {
  mixed := by kernel_rfl
  f7 := ⟨Tryz.f127.name, by decide, Tryz.func127.trans (congrArg some (by kernel_rfl))⟩
  f10 := ⟨Tryz.f176.name, by decide, Tryz.func176.trans (congrArg some (by kernel_rfl))⟩
  t0 := Tryz.underlying0
  a0 := Tryz.isAgg0
  z0 := Tryz.sizeOf0
  v0 := Tryz.zeroValue0
  t4 := Tryz.underlying4
  a4 := Tryz.isAgg4
  z4 := Tryz.sizeOf4
  v4 := Tryz.zeroValue4
  t23 := Tryz.underlying132
  a23 := Tryz.isAgg132
  z23 := Tryz.sizeOf132
  v23 := Tryz.zeroValue132
  t26 := Tryz.underlying9
  a26 := Tryz.isAgg9
  z26 := Tryz.sizeOf9
  v26 := Tryz.zeroValue9
  t27 := Tryz.underlying76
  a27 := Tryz.isAgg76
  z27 := Tryz.sizeOf76
  v27 := Tryz.zeroValue76
  t28 := Tryz.underlying77
  a28 := Tryz.isAgg77
  z28 := Tryz.sizeOf77
  v28 := Tryz.zeroValue77
  t33 := Tryz.underlying68
  a33 := Tryz.isAgg68
  z33 := Tryz.sizeOf68
  v33 := Tryz.zeroValue68 }
def Tryz.sorted26_ren : Go.Shelf.Ren := ⟨fun | 6 => 26 | 8 => 44 | 9 => 45 | 11 => 75 | 13 => 77 | 12 => 76 | 23 => 117 | 24 => 118 | 14 => 108 | 15 => 109 | 16 => 110 | 17 => 111 | 18 => 112 | 19 => 113 | 20 => 114 | 21 => 115 | 22 => 116 | 25 => 154 | 26 => 155 | 27 => 156 | 28 => 157 | 29 => 158 | 30 => 159 | 31 => 191 | n => n, fun | 26 => 9 | 28 => 77 | 24 => 28 | 0 => 0 | 3 => 3 | 37 => 167 | 48 => 218 | 50 => 220 | 4 => 4 | 40 => 211 | 39 => 210 | 45 => 215 | 5 => 5 | 9 => 9 | 51 => 248 | 55 => 252 | 57 => 273 | 58 => 190 | 33 => 68 | n => n, fun | n => n⟩
theorem Tryz.sorted26 : Go.Proofs.SlLaysZ.n6 Tryz.prog Tryz.sorted26_ren := {
  mixed := by kernel_rfl
  f6 := ⟨Tryz.f26.name, by decide, Tryz.func26.trans (congrArg some (by kernel_rfl))⟩
  f8 := ⟨Tryz.f44.name, by decide, Tryz.func44.trans (congrArg some (by kernel_rfl))⟩
  f11 := ⟨Tryz.f75.name, by decide, Tryz.func75.trans (congrArg some (by kernel_rfl))⟩
  t0 := Tryz.underlying0
  a0 := Tryz.isAgg0
  z0 := Tryz.sizeOf0
  v0 := Tryz.zeroValue0
  t24 := Tryz.underlying28
  a24 := Tryz.isAgg28
  z24 := Tryz.sizeOf28
  v24 := Tryz.zeroValue28
  t26 := Tryz.underlying9
  a26 := Tryz.isAgg9
  z26 := Tryz.sizeOf9
  v26 := Tryz.zeroValue9
  t28 := Tryz.underlying77
  a28 := Tryz.isAgg77
  z28 := Tryz.sizeOf77
  v28 := Tryz.zeroValue77
  i26 := by kernel_rfl }
def Tryz.sort45_ren : Go.Shelf.Ren := ⟨fun | 6 => 45 | 8 => 77 | 9 => 76 | 19 => 117 | 20 => 118 | 21 => 108 | 22 => 109 | 23 => 110 | 24 => 111 | 25 => 112 | 26 => 113 | 27 => 114 | 28 => 115 | 29 => 116 | 36 => 154 | 31 => 155 | 32 => 156 | 37 => 157 | 38 => 158 | 39 => 159 | 41 => 191 | n => n, fun | 27 => 28 | 29 => 9 | 3 => 3 | 32 => 167 | 26 => 28 | 0 => 0 | 44 => 218 | 46 => 220 | 4 => 4 | 36 => 211 | 35 => 210 | 41 => 215 | 5 => 5 | 9 => 9 | 53 => 248 | 57 => 252 | 63 => 273 | 64 => 190 | n => n, fun | n => n⟩
theorem Tryz.sort45 : Go.Proofs.SlLaysM.n6 Tryz.prog Tryz.sort45_ren := {
  mixed := by kernel_rfl
  f6 := ⟨Tryz.f45.name, by decide, Tryz.func45.trans (congrArg some (by kernel_rfl))⟩
  f8 := Tryz.func77.trans (congrArg some (by kernel_rfl))
  f9 := ⟨Tryz.f76.name, by decide, Tryz.func76.trans (congrArg some (by kernel_rfl))⟩
  f19 := Tryz.func117.trans (congrArg some (by kernel_rfl))
  f20 := Tryz.func118.trans (congrArg some (by kernel_rfl))
  f21 := ⟨Tryz.f108.name, by decide, Tryz.func108.trans (congrArg some (by kernel_rfl))⟩
  f22 := ⟨Tryz.f109.name, by decide, Tryz.func109.trans (congrArg some (by kernel_rfl))⟩
  f23 := ⟨Tryz.f110.name, by decide, Tryz.func110.trans (congrArg some (by kernel_rfl))⟩
  f24 := ⟨Tryz.f111.name, by decide, Tryz.func111.trans (congrArg some (by kernel_rfl))⟩
  f25 := ⟨Tryz.f112.name, by decide, Tryz.func112.trans (congrArg some (by kernel_rfl))⟩
  f26 := ⟨Tryz.f113.name, by decide, Tryz.func113.trans (congrArg some (by kernel_rfl))⟩
  f27 := ⟨Tryz.f114.name, by decide, Tryz.func114.trans (congrArg some (by kernel_rfl))⟩
  f28 := ⟨Tryz.f115.name, by decide, Tryz.func115.trans (congrArg some (by kernel_rfl))⟩
  f29 := ⟨Tryz.f116.name, by decide, Tryz.func116.trans (congrArg some (by kernel_rfl))⟩
  f31 := Tryz.func155.trans (congrArg some (by kernel_rfl))
  f32 := Tryz.func156.trans (congrArg some (by kernel_rfl))
  f36 := ⟨Tryz.f154.name, by decide, Tryz.func154.trans (congrArg some (by kernel_rfl))⟩
  f37 := ⟨Tryz.f157.name, by decide, Tryz.func157.trans (congrArg some (by kernel_rfl))⟩
  f38 := ⟨Tryz.f158.name, by decide, Tryz.func158.trans (congrArg some (by kernel_rfl))⟩
  f39 := ⟨Tryz.f159.name, by decide, Tryz.func159.trans (congrArg some (by kernel_rfl))⟩
  f41 := ⟨Tryz.f191.name, by decide, Tryz.func191.trans (congrArg some (by kernel_rfl))⟩
  t0 := Tryz.underlying0
  a0 := Tryz.isAgg0
  z0 := Tryz.sizeOf0
  v0 := Tryz.zeroValue0
  t3 := Tryz.underlying3
  a3 := Tryz.isAgg3
  z3 := Tryz.sizeOf3
  v3 := Tryz.zeroValue3
  t4 := Tryz.underlying4
  a4 := Tryz.isAgg4
  z4 := Tryz.sizeOf4
  v4 := Tryz.zeroValue4
  t5 := Tryz.underlying5
  a5 := Tryz.isAgg5
  z5 := Tryz.sizeOf5
  v5 := Tryz.zeroValue5
  t9 := Tryz.underlying9
  a9 := Tryz.isAgg9
  z9 := Tryz.sizeOf9
  v9 := Tryz.zeroValue9
  t26 := Tryz.underlying28
  a26 := Tryz.isAgg28
  z26 := Tryz.sizeOf28
  v26 := Tryz.zeroValue28
  t27 := Tryz.underlying28
  a27 := Tryz.isAgg28
  z27 := Tryz.sizeOf28
  v27 := Tryz.zeroValue28
  t29 := Tryz.underlying9
  a29 := Tryz.isAgg9
  z29 := Tryz.sizeOf9
  v29 := Tryz.zeroValue9
  t32 := Tryz.underlying167
  a32 := Tryz.isAgg167
  z32 := Tryz.sizeOf167
  v32 := Tryz.zeroValue167
  t35 := Tryz.underlying210
  a35 := Tryz.isAgg210
  z35 := Tryz.sizeOf210
  v35 := Tryz.zeroValue210
  t36 := Tryz.underlying211
  a36 := Tryz.isAgg211
  z36 := Tryz.sizeOf211
  v36 := Tryz.zeroValue211
  t41 := Tryz.underlying215
  a41 := Tryz.isAgg215
  z41 := Tryz.sizeOf215
  v41 := Tryz.zeroValue215
  t44 := Tryz.underlying218
  a44 := Tryz.isAgg218
  z44 := Tryz.sizeOf218
  v44 := Tryz.zeroValue218
  t46 := Tryz.underlying220
  a46 := Tryz.isAgg220
  z46 := Tryz.sizeOf220
  v46 := Tryz.zeroValue220
  t53 := Tryz.underlying248
  a53 := Tryz.isAgg248
  z53 := Tryz.sizeOf248
  v53 := Tryz.zeroValue248
  t57 := Tryz.underlying252
  a57 := Tryz.isAgg252
  z57 := Tryz.sizeOf252
  v57 := Tryz.zeroValue252
  t63 := Tryz.underlying273
  a63 := Tryz.isAgg273
  z63 := Tryz.sizeOf273
  v63 := Tryz.zeroValue273
  t64 := Tryz.underlying190
  a64 := Tryz.isAgg190
  z64 := Tryz.sizeOf190
  v64 := Tryz.zeroValue190 }
theorem Tryz.sorts26 (m : Nat) : AnyZ.SortsIn Tryz.prog Tryz.sorted26_ren Fence.wide m :=
  ⟨fun blk off cap ss W hH hblk hsz => callsIn_wide.2 (AnyM.slices_Sort_string Tryz.sort45 blk off cap ss W hH hblk hsz),
   fun p cap W => callsIn_wide.2 (AnyM.slices_Sort_string_none Tryz.sort45 p cap W)⟩
theorem cell_lt {w : World} {p : Nat} {v : Value} (h : w.cell? ⟨p, 0, none⟩ = some v) : p < w.heap.size := by
  rcases Nat.lt_or_ge p w.heap.size with h1 | h1
  · exact h1
  · simp [World.cell?, Array.getElem?_eq_none h1] at h
set_option maxHeartbeats 1000000 in
theorem Tryz.sortC46 : Go.Abs.SortC Tryz.prog true 26 46 :=
  Go.Abs.sortC_str (k := 9) (E := 9) Tryz.underlying9
    (fun w p b nn D0 hc hown h1 h2 => (callsIn_wide (n := 5)).1 (AnyZ.sorted_in Tryz.sorted26 Fence.wide 5 trivial trivial trivial trivial rfl (by omega) (Tryz.sorts26 _) (enters_of Tryz.func45 (by kernel_rfl) rfl) 46 #[.pointer (some ⟨p, 0, none⟩)] trivial (enters_of Tryz.func46 (by kernel_rfl) rfl) _ _ h1 h2 _
      (AnyZ.keys_gives (ρ := Tryz.keys27_ren) { Tryz.keys27 with } Fence.wide _ trivial rfl (by omega) p b nn D0 _ (cell_lt hc) hc hown)))
    (fun w p hc => (callsIn_wide (n := 5)).1 (AnyZ.sorted_in Tryz.sorted26 Fence.wide 5 trivial trivial trivial trivial rfl (by omega) (Tryz.sorts26 _) (enters_of Tryz.func45 (by kernel_rfl) rfl) 46 #[.pointer (some ⟨p, 0, none⟩)] trivial (enters_of Tryz.func46 (by kernel_rfl) rfl) _ 0 (Nat.zero_le _) (by omega) _
      (AnyZ.keys_gives_nil (ρ := Tryz.keys27_ren) { Tryz.keys27 with } Fence.wide _ trivial rfl p _ (cell_lt hc) hc)))
set_option maxHeartbeats 1000000 in
theorem Tryz.sortC58 : Go.Abs.SortC Tryz.prog true 26 58 :=
  Go.Abs.sortC_str (k := 9) (E := 9) Tryz.underlying9
    (fun w p b nn D0 hc hown h1 h2 => (callsIn_wide (n := 5)).1 (AnyZ.sorted_in Tryz.sorted26 Fence.wide 5 trivial trivial trivial trivial rfl (by omega) (Tryz.sorts26 _) (enters_of Tryz.func45 (by kernel_rfl) rfl) 58 #[.pointer (some ⟨p, 0, none⟩)] trivial (enters_of Tryz.func58 (by kernel_rfl) rfl) _ _ h1 h2 _
      (AnyZ.keys_gives (ρ := Tryz.keys33_ren) { Tryz.keys33 with } Fence.wide _ trivial rfl (by omega) p b nn D0 _ (cell_lt hc) hc hown)))
    (fun w p hc => (callsIn_wide (n := 5)).1 (AnyZ.sorted_in Tryz.sorted26 Fence.wide 5 trivial trivial trivial trivial rfl (by omega) (Tryz.sorts26 _) (enters_of Tryz.func45 (by kernel_rfl) rfl) 58 #[.pointer (some ⟨p, 0, none⟩)] trivial (enters_of Tryz.func58 (by kernel_rfl) rfl) _ 0 (Nat.zero_le _) (by omega) _
      (AnyZ.keys_gives_nil (ρ := Tryz.keys33_ren) { Tryz.keys33 with } Fence.wide _ trivial rfl p _ (cell_lt hc) hc)))
set_option maxHeartbeats 1000000 in
theorem Tryz.sortC176 : Go.Abs.SortC Tryz.prog true 26 176 :=
  Go.Abs.sortC_str (k := 9) (E := 9) Tryz.underlying9
    (fun w p b nn D0 hc hown h1 h2 => (callsIn_wide (n := 5)).1 (AnyZ.sorted_in Tryz.sorted26 Fence.wide 5 trivial trivial trivial trivial rfl (by omega) (Tryz.sorts26 _) (enters_of Tryz.func45 (by kernel_rfl) rfl) 176 #[.pointer (some ⟨p, 0, none⟩)] trivial (enters_of Tryz.func176 (by kernel_rfl) rfl) _ _ h1 h2 _
      (AnyZ.keys_gives (ρ := Tryz.keys127_ren) { Tryz.keys127 with } Fence.wide _ trivial rfl (by omega) p b nn D0 _ (cell_lt hc) hc hown)))
    (fun w p hc => (callsIn_wide (n := 5)).1 (AnyZ.sorted_in Tryz.sorted26 Fence.wide 5 trivial trivial trivial trivial rfl (by omega) (Tryz.sorts26 _) (enters_of Tryz.func45 (by kernel_rfl) rfl) 176 #[.pointer (some ⟨p, 0, none⟩)] trivial (enters_of Tryz.func176 (by kernel_rfl) rfl) _ 0 (Nat.zero_le _) (by omega) _
      (AnyZ.keys_gives_nil (ρ := Tryz.keys127_ren) { Tryz.keys127 with } Fence.wide _ trivial rfl p _ (cell_lt hc) hc)))
end Go.Proofs
end

section
/- The sorted keys of the program's maps, as an entry of the evaluator's table. -/
namespace Go.Proofs.YtkbioibemcmanaaGreatDoor.E
open Go.Abs
theorem sort_all : ∀ g, g ∈ [46, 58, 176] → SortC P true 26 g := by
  intro g hg
  simp only [List.mem_cons, List.not_mem_nil, or_false] at hg
  rcases hg with rfl | rfl | rfl
  · exact Tryz.sortC46
  · exact Tryz.sortC58
  · exact Tryz.sortC176
noncomputable def e_sorted : Ent P := ⟨26, 0, 0, dSort true [46, 58, 176], fun C D _ _ => sort_ent (by kernel_rfl) (by kernel_rfl) (by kernel_rfl) sort_all C D⟩
end Go.Proofs.YtkbioibemcmanaaGreatDoor.E
end

section
/- The table of bodies. -/
namespace Go.Proofs.YtkbioibemcmanaaGreatDoor.E
open Go.Abs
noncomputable def tbEv_0 : T (Ent P) := .node (.node (.node (.node (.node (.node (.node (.node (.node .nil none (.node .nil none (.node (.node .nil none (.node .nil none (.node (.node .nil (some e_gt) .nil) none .nil))) none (.node (.node (.node .nil (some e_ev) .nil) none .nil) none .nil)))) none (.node (.node (.node (.node .nil none (.node (.node (.node .nil (some e_a6) .nil) (some e_ct) .nil) none .nil)) none (.node (.node .nil none (.node .nil (some e_am) .nil)) none .nil)) none (.node (.node .nil none (.node .nil (some e_gx) .nil)) none .nil)) none (.node (.node (.node (.node .nil none (.node (.node .nil (some e_ci) .nil) none .nil)) none .nil) none .nil) none (.node (.node (.node .nil (some e_gv) .nil) none .nil) none .nil)))) none .nil) none .nil) none .nil) none .nil) none (.node (.node (.node (.node (.node (.node .nil none (.node .nil none (.node .nil none (.node .nil none (.node (.node .nil (some e_g9) .nil) none .nil))))) none .nil) none .nil) none .nil) none .nil) none .nil)) none (.node (.node (.node (.node (.node (.node (.node (.node (.node (.node (.node .nil none (.node .nil (some e_g0) .nil)) none .nil) none .nil) none .nil) none (.node .nil none (.node .nil none (.node .nil (some e_bz) .nil)))) none .nil) none .nil) none .nil) none .nil) none .nil) none (.node (.node (.node (.node (.node (.node (.node .nil none (.node (.node (.node (.node .nil (some e_ea) .nil) none .nil) none .nil) none .nil)) none .nil) none .nil) none .nil) none .nil) none .nil) none .nil))) none (.node (.node (.node (.node (.node (.node (.node (.node (.node .nil none (.node .nil none (.node .nil (some e_dm) .nil))) none .nil) none (.node (.node (.node .nil none (.node .nil (some e_dg) (.node (.node (.node .nil (some e_ae) .nil) none .nil) none .nil))) none .nil) none (.node .nil none (.node (.node .nil none (.node .nil (some e_ic) .nil)) none .nil)))) none .nil) none .nil) none .nil) none .nil) none .nil) none .nil)
noncomputable def tbEv_1 : T (Ent P) := .node (.node (.node (.node .nil none (.node (.node (.node (.node (.node (.node (.node .nil none (.node (.node (.node (.node .nil (some e_e7) .nil) none .nil) none .nil) none .nil)) none .nil) none (.node (.node (.node (.node (.node (.node (.node .nil (some e_f6) .nil) none .nil) none .nil) none .nil) none .nil) none .nil) none .nil)) none .nil) none .nil) none .nil) none .nil)) none (.node (.node (.node (.node (.node (.node (.node .nil none (.node (.node (.node .nil (some e_fs) .nil) none .nil) none .nil)) none .nil) none .nil) none .nil) none .nil) none .nil) none .nil)) none (.node (.node (.node (.node (.node (.node (.node (.node (.node (.node .nil none (.node (.node (.node .nil (some e_c7) .nil) none .nil) none (.node .nil (some e_a9) .nil))) none (.node (.node (.node .nil (some e_eg) .nil) none .nil) none .nil)) none .nil) none .nil) none .nil) none .nil) none .nil) none .nil) none .nil) none (.node (.node (.node (.node (.node (.node .nil none (.node (.node (.node .nil none (.node .nil (some e_dh) .nil)) none .nil) none (.node .nil none (.node (.node .nil none (.node .nil (some e_if) .nil)) none .nil)))) none .nil) none .nil) none .nil) none .nil) none .nil))) none tbEv_0
noncomputable def tbEv_2 : T (Ent P) := .node (.node (.node (.node .nil none (.node (.node (.node (.node (.node (.node (.node .nil none (.node (.node (.node (.node .nil (some e_e8) .nil) none .nil) none .nil) none .nil)) none .nil) none (.node .nil none (.node .nil none (.node .nil none (.node .nil none (.node (.node .nil (some e_dz) .nil) none .nil)))))) none .nil) none .nil) none .nil) none .nil)) none (.node (.node (.node (.node (.node (.node .nil none (.node .nil none (.node .nil none (.node (.node .nil none (.node .nil (some e_ie) .nil)) none .nil)))) none .nil) none .nil) none .nil) none .nil) none .nil)) none (.node (.node (.node (.node (.node (.node (.node (.node (.node .nil none (.node .nil none (.node .nil none (.node .nil none (.node .nil (some e_ai) .nil))))) none (.node .nil none (.node (.node (.node .nil (some e_dv) .nil) none .nil) none .nil))) none (.node (.node (.node .nil (some e_de) (.node (.node (.node .nil none (.node .nil (some e_hj) .nil)) none .nil) none .nil)) none .nil) none .nil)) none .nil) none .nil) none .nil) none .nil) none .nil) none .nil)) none (.node (.node (.node (.node (.node (.node (.node (.node (.node (.node .nil none (.node .nil (some e_gp) .nil)) none (.node (.node .nil (some e_gr) .nil) none (.node (.node (.node .nil (some e_du) .nil) none .nil) none .nil))) none (.node (.node (.node .nil none (.node (.node .nil (some e_g4) .nil) none .nil)) none (.node .nil (some e_gn) .nil)) none (.node (.node (.node .nil none (.node .nil none (.node (.node .nil (some e_fc) .nil) none .nil))) none (.node (.node .nil (some e_cg) .nil) none (.node .nil (some e_ed) .nil))) none .nil))) none .nil) none .nil) none .nil) none .nil) none .nil) none .nil) none (.node (.node (.node (.node (.node (.node (.node (.node (.node (.node (.node (.node .nil none (.node .nil (some e_fz) .nil)) none .nil) none .nil) none .nil) none .nil) none (.node .nil none (.node .nil none (.node (.node .nil none (.node .nil (some e_id) .nil)) none .nil)))) none .nil) none .nil) none .nil) none .nil) none .nil) none .nil))
noncomputable def tbEv_3 : T (Ent P) := .node tbEv_1 none tbEv_2
noncomputable def tbEv_4 : T (Ent P) := .node (.node (.node (.node .nil (some e_dr) (.node .nil (some e_h0) .nil)) (some e_em) (.node (.node .nil (some e_er) .nil) (some e_fy) .nil)) (some e_da) (.node (.node (.node .nil (some e_a4) .nil) (some e_et) .nil) (some e_do) .nil)) (some e_db) (.node (.node (.node (.node .nil (some e_ia) .nil) none (.node .nil (some e_j0) .nil)) (some e_i5) (.node (.node .nil (some e_ew) .nil) none .nil)) (some e_fv) (.node (.node .nil (some e_io) .nil) (some e_a7) (.node (.node .nil (some e_iu) .nil) (some e_es) .nil)))
noncomputable def tbEv_5 : T (Ent P) := .node (.node (.node (.node (.node .nil (some e_g5) .nil) (some e_e6) .nil) (some e_ee) (.node (.node .nil (some e_f0) .nil) (some e_e3) .nil)) (some e_bh) (.node (.node (.node .nil (some e_iy) .nil) (some e_fm) .nil) (some e_el) (.node .nil (some e_hc) .nil))) (some e_go) (.node (.node (.node .nil (some e_hd) .nil) none (.node (.node .nil (some e_mnz) .nil) none .nil)) (some e_dk) (.node (.node .nil (some e_cr) .nil) (some e_ei) (.node (.node .nil (some e_idx) .nil) (some e_ag) .nil)))
noncomputable def tbEv_6 : T (Ent P) := .node tbEv_4 (some e_bi) tbEv_5
noncomputable def tbEv_7 : T (Ent P) := .node (.node (.node (.node (.node .nil (some e_ig) .nil) (some e_c8) .nil) (some e_cb) (.node .nil (some e_i4) .nil)) (some e_fr) (.node (.node (.node .nil (some e_an) .nil) none .nil) (some e_en) (.node (.node .nil (some e_fd) .nil) (some e_bw) .nil))) (some e_gq) (.node (.node (.node .nil (some e_cj) .nil) (some e_dp) (.node (.node .nil (some e_f2) .nil) (some e_ab) .nil)) (some e_sorted) (.node (.node .nil (some e_cd) .nil) none (.node (.node .nil (some e_ih) .nil) (some e_fn) .nil)))
noncomputable def tbEv_8 : T (Ent P) := .node (.node (.node (.node (.node .nil (some e_gg) .nil) (some e_g2) .nil) (some e_ds) (.node (.node .nil (some e_co) .nil) (some e_ix) .nil)) (some e_gk) (.node (.node .nil (some e_a1) .nil) (some e_cv) (.node (.node .nil (some e_gs) .nil) none .nil))) none (.node (.node (.node (.node .nil (some e_cnt) .nil) (some e_eu) .nil) none .nil) (some e_by) (.node (.node .nil (some e_g8) .nil) (some e_gl) (.node .nil (some e_i9) .nil)))
noncomputable def tbEv_9 : T (Ent P) := .node tbEv_7 (some e_be) tbEv_8
noncomputable def tbEv_10 : T (Ent P) := .node tbEv_6 none tbEv_9
noncomputable def tbEv_11 : T (Ent P) := .node (.node (.node (.node (.node .nil (some e_f5) .nil) (some e_e1) .nil) (some e_cx) (.node (.node .nil (some e_ey) .nil) (some e_i3) .nil)) (some e_j1) (.node (.node (.node .nil (some e_a5) .nil) (some e_cs) .nil) (some e_ep) (.node (.node .nil (some e_fa) .nil) none .nil))) (some e_dd) (.node (.node (.node (.node .nil (some e_i7) .nil) (some e_a2) .nil) (some e_g3) (.node .nil (some e_al) .nil)) (some e_df) (.node (.node (.node .nil (some e_ad) .nil) (some e_ce) .nil) (some e_il) (.node (.node .nil (some e_iv) .nil) (some e_cw) .nil)))
noncomputable def tbEv_12 : T (Ent P) := .node tbEv_11 (some e_bf) (.node (.node (.node (.node (.node .nil (some e_gb) .nil) (some e_it) .nil) (some e_ft) (.node .nil (some e_a3) .nil)) (some e_fp) (.node (.node .nil (some e_fk) .nil) (some e_gw) .nil)) (some e_gm) (.node (.node .nil (some e_gy) (.node (.node .nil (some e_ap) .nil) none .nil)) (some e_dn) (.node .nil (some e_ej) .nil)))
noncomputable def tbEv_13 : T (Ent P) := .node (.node (.node (.node (.node .nil (some e_ga) .nil) none .nil) (some e_eh) (.node (.node .nil (some e_ch) .nil) (some e_fu) .nil)) (some e_c2) (.node (.node (.node .nil (some e_ak) .nil) (some e_fg) .nil) (some e_ek) (.node (.node .nil (some e_fb) .nil) (some e_hb) .nil))) (some e_dc) (.node (.node (.node (.node .nil (some e_fi) .nil) none .nil) (some e_cf) (.node (.node .nil (some e_same) .nil) (some e_gf) .nil)) (some e_d1) (.node (.node (.node .nil (some e_h8) .nil) (some e_cp) .nil) (some e_ec) (.node .nil (some e_fo) .nil)))
noncomputable def tbEv_14 : T (Ent P) := .node (.node (.node (.node (.node .nil (some e_i6) .nil) (some e_c5) .nil) (some e_gu) (.node .nil (some e_c3) .nil)) (some e_bv) (.node (.node .nil (some e_fl) .nil) (some e_ib) (.node (.node .nil (some e_gc) .nil) (some e_ex) .nil))) (some e_fq) (.node (.node (.node (.node .nil (some e_ii) .nil) (some e_ez) .nil) (some e_di) .nil) (some e_gh) (.node (.node .nil (some e_dw) .nil) (some e_g6) (.node .nil (some e_cz) .nil)))
noncomputable def tbEv_15 : T (Ent P) := .node tbEv_13 (some e_br) tbEv_14
noncomputable def tbEv_16 : T (Ent P) := .node tbEv_12 none tbEv_15
noncomputable def tbEv_17 : T (Ent P) := .node tbEv_10 none tbEv_16
noncomputable def tbEv_18 : T (Ent P) := .node tbEv_17 none .nil
noncomputable def tbEv_19 : T (Ent P) := .node tbEv_18 none .nil
noncomputable def tbEv_20 : T (Ent P) := .node tbEv_19 none .nil
noncomputable def tbEv_21 : T (Ent P) := .node tbEv_20 none .nil
noncomputable def tbEv_22 : T (Ent P) := .node tbEv_21 none .nil
noncomputable def tbEv_23 : T (Ent P) := .node tbEv_22 none (.node (.node (.node (.node (.node (.node (.node .nil none (.node .nil none (.node (.node (.node .nil none (.node .nil (some e_iz) .nil)) none .nil) none .nil))) none (.node .nil none (.node .nil (some e_bt) (.node .nil none (.node .nil none (.node (.node .nil (some e_dx) .nil) none .nil)))))) none .nil) none .nil) none .nil) none .nil) none (.node (.node (.node (.node (.node (.node (.node .nil none (.node (.node (.node (.node .nil (some e_e9) .nil) none .nil) none .nil) none .nil)) none .nil) none .nil) none .nil) none .nil) none .nil) none .nil))
noncomputable def tbEv_24 : T (Ent P) := .node tbEv_23 none (.node (.node (.node (.node (.node (.node (.node (.node (.node (.node .nil none (.node .nil none (.node (.node .nil (some e_ir) .nil) none .nil))) none .nil) none (.node (.node .nil none (.node (.node .nil (some e_dq) .nil) none .nil)) none .nil)) none (.node (.node (.node .nil none (.node .nil none (.node (.node (.node .nil (some e_af) .nil) none .nil) none .nil))) none .nil) none (.node .nil (some e_bu) (.node .nil none (.node (.node (.node .nil none (.node .nil (some e_ht) .nil)) none .nil) none (.node .nil (some e_g7) .nil)))))) none .nil) none .nil) none .nil) none .nil) none (.node (.node (.node (.node (.node .nil none (.node .nil none (.node .nil none (.node .nil none (.node .nil none (.node (.node .nil (some e_e0) .nil) none .nil)))))) none .nil) none .nil) none .nil) none .nil)) none .nil)
noncomputable def tbEv_25 : T (Ent P) := .node (.node (.node (.node (.node (.node .nil none (.node .nil (some e_g1) .nil)) none .nil) none (.node .nil (some e_fw) .nil)) none (.node (.node (.node .nil (some e_ef) (.node (.node .nil (some e_f1) .nil) none .nil)) none .nil) none (.node .nil none (.node .nil none (.node .nil (some e_ah) .nil))))) none (.node (.node (.node (.node (.node .nil (some e_c9) .nil) (some e_cc) .nil) none .nil) none (.node (.node (.node .nil (some e_ck) .nil) none (.node (.node .nil (some e_f3) .nil) (some e_ac) .nil)) none .nil)) none (.node .nil none (.node .nil (some e_c0) .nil)))) none (.node (.node (.node (.node (.node (.node .nil (some e_e2) .nil) none .nil) none (.node .nil (some e_eq) .nil)) none .nil) (some e_bg) .nil) none (.node (.node (.node .nil none (.node (.node .nil (some e_fh) .nil) none .nil)) none .nil) none (.node (.node (.node .nil none (.node .nil (some e_c4) .nil)) none .nil) none (.node (.node .nil (some e_dj) .nil) none .nil))))
noncomputable def tbEv_26 : T (Ent P) := .node tbEv_25 none .nil
noncomputable def tbEv_27 : T (Ent P) := .node tbEv_26 none .nil
noncomputable def tbEv_28 : T (Ent P) := .node tbEv_27 none .nil
noncomputable def tbEv_29 : T (Ent P) := .node tbEv_28 none .nil
noncomputable def tbEv_30 : T (Ent P) := .node tbEv_29 none (.node (.node (.node (.node (.node .nil none (.node (.node (.node (.node (.node (.node (.node .nil (some e_f7) .nil) none .nil) none .nil) none .nil) none .nil) none .nil) none .nil)) none .nil) none .nil) none .nil) none .nil)
noncomputable def tbEv_31 : T (Ent P) := .node tbEv_30 none (.node (.node (.node (.node (.node (.node .nil none (.node .nil none (.node .nil none (.node .nil none (.node .nil none (.node (.node .nil (some e_dy) .nil) none .nil)))))) none .nil) none .nil) none .nil) none .nil) none .nil)
noncomputable def tbEv_32 : T (Ent P) := .node tbEv_31 none (.node (.node (.node (.node (.node (.node (.node (.node (.node (.node .nil none (.node .nil none (.node (.node .nil (some e_ip) .nil) none .nil))) none .nil) none .nil) none .nil) none .nil) none .nil) none .nil) none .nil) none .nil) none .nil)
noncomputable def tbEv_33 : T (Ent P) := .node tbEv_24 none tbEv_32
noncomputable def tbEv_34 : T (Ent P) := .node (.node (.node (.node (.node (.node (.node (.node (.node (.node (.node .nil none (.node .nil none (.node .nil (some e_dl) .nil))) none .nil) none .nil) none .nil) none .nil) none .nil) none .nil) none .nil) none (.node (.node (.node (.node (.node (.node (.node (.node (.node .nil none (.node .nil none (.node (.node .nil (some e_iq) .nil) none .nil))) none .nil) none .nil) none .nil) none .nil) none .nil) none .nil) none .nil) none .nil)) none (.node (.node (.node (.node (.node (.node (.node (.node (.node (.node .nil none (.node .nil none (.node .nil (some e_aa) .nil))) none (.node (.node (.node (.node .nil (some e_eb) .nil) none .nil) none .nil) none .nil)) none (.node .nil none (.node .nil none (.node .nil (some e_c1) .nil)))) none .nil) none .nil) none .nil) none .nil) none .nil) none .nil) none .nil)) none (.node (.node (.node (.node (.node (.node (.node (.node (.node .nil none (.node (.node (.node .nil none (.node (.node (.node .nil (some e_ao) .nil) none .nil) (some e_eo) .nil)) none .nil) none .nil)) none (.node (.node (.node (.node (.node (.node (.node .nil (some e_f9) .nil) none .nil) none .nil) none .nil) none .nil) none .nil) none .nil)) none .nil) none .nil) none .nil) none .nil) none (.node (.node (.node (.node (.node .nil none (.node (.node (.node (.node (.node (.node (.node .nil (some e_f8) .nil) none .nil) none .nil) none .nil) none .nil) none .nil) none .nil)) none .nil) none .nil) none .nil) none .nil)) none (.node (.node (.node (.node (.node (.node (.node .nil none (.node .nil none (.node (.node (.node .nil (some e_dt) .nil) none .nil) none .nil))) none .nil) none .nil) none .nil) none .nil) none .nil) none .nil)) none (.node (.node (.node (.node (.node (.node (.node (.node (.node (.node .nil none (.node .nil none (.node .nil (some e_a8) .nil))) none .nil) none (.node (.node .nil none (.node .nil none (.node .nil none (.node (.node .nil (some e_ij) .nil) none .nil)))) none .nil)) none (.node .nil none (.node .nil (some e_bs) .nil))) none .nil) none .nil) none .nil) none .nil) none .nil) none .nil))
noncomputable def tbEv_35 : T (Ent P) := .node tbEv_33 none tbEv_34
noncomputable def tabEv : T (Ent P) := .node tbEv_3 none tbEv_35
end Go.Proofs.YtkbioibemcmanaaGreatDoor.E
end

section
/- Who asked what: the graph of two edges, laid in either order, tells them in one. -/
namespace Go.Proofs.YtkbioibemcmanaaGreatDoor.E
open Go.Abs
set_option maxRecDepth 100000
def hE : AW := ⟨8, .nil, .nil, .nil, .nil⟩
def doneB (v : Value) (h : AW) : Bool :=
  match v with
  | .slice (some ⟨i, 0, none⟩) 2 c => match h.objs.get? i with
    | some (.row f g lo hi sz _) => match h.fams.get? f with
      | some fm => match h.rdN i 0 4 with
        | some l => (Nat.beq fm.gen g && Nat.beq lo 0 && Nat.beq sz 2) && (Nat.ble (c * 2) hi && Nat.beq fm.frz 0 && Nat.ble 2 c) && sameLV l [.string tB, .string tA, .string tC, .string tB]
        | none => false
      | none => false
    | _ => false
  | _ => false
def eDone (v : Value) (h : AW) : Prop := bCE (doneB v h) True False
theorem run_cb : semR P tabEv 100000 34 0 0 [.slice none 0 0] hE (fun g h1 => semR P tabEv 100000 35 0 0 [g, .string tC, .string tB] h1 fun _ h2 => semR P tabEv 100000 35 0 0 [g, .string tB, .string tA] h2 fun _ h3 => semR P tabEv 100000 36 0 0 [g] h3 eDone) = True := by kernel_rfl
theorem run_bc : semR P tabEv 100000 34 0 0 [.slice none 0 0] hE (fun g h1 => semR P tabEv 100000 35 0 0 [g, .string tB, .string tA] h1 fun _ h2 => semR P tabEv 100000 35 0 0 [g, .string tC, .string tB] h2 fun _ h3 => semR P tabEv 100000 36 0 0 [g] h3 eDone) = True := by kernel_rfl
end Go.Proofs.YtkbioibemcmanaaGreatDoor.E
end

section
/- Who asked what: calls of the graph's functions at a world, and iterators beside. -/
open Go.RowKit
namespace Go.Proofs.YtkbioibemcmanaaGreatDoor.E
open Go.Abs
set_option maxRecDepth 100000
variable {φ ψ : Map} {h h' : AW} {w w' : World} {B1 : Zn} {w1 : World}
theorem turn {r m : Nat} (H : HRel B1 w1 φ h w) (hz : B1.Z r) (hnr : ¬ B1.R r) (hr : ∃ s seen c, w.heap[r]? = some (.mapIter (some m) s seen c)) (hsz : w'.heap.size = w.heap.size) (hne : ∀ k, k ≠ r → w'.heap[k]? = w.heap[k]?) : HRel B1 w' φ h w' := by
  obtain ⟨s, seen, c, hr⟩ := hr
  refine ⟨fun k hk => by rw [hsz]; exact H.inn k hk, BelowZ.refl _ _, H.dom, fun i o x ho hx => by rw [hsz]; exact H.lto i o x ho hx, fun i o ho => ?_, H.fam, H.sep, H.ty.same ⟨fun b c t fz hc => ⟨c, fz, ?_⟩, fun b hc => ?_, fun b hx => hx.keep fun e n hc => ?_⟩ rfl (Nat.le_refl _)⟩
  · obtain ⟨b, σ, κ, hp, hR⟩ := H.obj i o ho
    refine ⟨b, σ, κ, hp, ?_⟩
    cases o with
    | var cs n ro =>
      cases ro with
      | false =>
        have hb : ¬ B1.Z b := (hR.2.2.2.1 rfl).1
        exact hR.same (w' := w') (hne b fun hs => hb (hs ▸ hz))
      | true =>
        rcases hR.2.2.2.2 rfl with hb | hn
        · exact hR.same (w' := w') (hne b fun hs => hnr (hs ▸ hb))
        · exact ⟨hR.1, hR.2.1, fun k x hk => by omega, fun e => (by cases e), fun _ => .inr hn⟩
    | row f g lo hi sz cs =>
      intro fm hf hg
      have hb : ¬ B1.Z b := (hR fm hf hg).1
      exact (hR.same (w' := w') (hne b fun hs => hb (hs ▸ hz))) fm hf hg
    | map es =>
      have hb : ¬ B1.Z b := hR.2.2.1
      exact hR.same (w' := w') (hne b fun hs => hb (hs ▸ hz))
  · rw [hne b fun hs => by subst hs; rw [hr] at hc; cases hc]; exact hc
  · rw [hne b fun hs => by subst hs; rw [hr] at hc; cases hc]; exact hc
  · rw [hne b fun hs => by subst hs; rw [hr] at hc; cases hc]; exact hc
theorem call_at {f : FuncId} {args args' : List Value} {Q : Value → AW → Prop} (E : EvQ P f args h Q) (hb : hasBody P f = true) (hl : LRel φ args args') (H : HRel B1 w1 φ h w) (hG : Glob P φ) :
    Calls P f ⟨args'⟩ w fun e w' => ∃ v h' ψ v', Q v h' ∧ φ.le ψ ∧ e = .returned v' ∧ VRel ψ v v' ∧ HRel B1 w1 ψ h' w' := by
  obtain ⟨v, h', ⟨n, hn⟩, q⟩ := E
  rcases calls_ok (B0 := B1) (w0 := w1) n f args h v h' hn with ⟨_, hc⟩ | ⟨⟨_, hx⟩, _⟩
  · refine (hc φ w args' hl H hG).mono fun e w' he => ?_
    obtain ⟨ψ, v', a, b, c, d⟩ := he
    exact ⟨v, h', ψ, v', q, a, b, c, d⟩
  · rw [hb] at hx; cases hx
theorem evals_one {f : FuncId} {args : List Value} {Q R : Value → AW → Prop} (a : EvQ P f args h Q) (b : EvQ P f args h R) : EvQ P f args h fun v h' => Q v h' ∧ R v h' := by
  obtain ⟨v, h1, ⟨n, hn⟩, q⟩ := a
  obtain ⟨u, h2, ⟨m, hm⟩, r⟩ := b
  have e1 := callF_mono (Nat.le_max_left n m) _ _ _ _ hn
  have e2 := callF_mono (Nat.le_max_right n m) _ _ _ _ hm
  rw [e1] at e2
  cases e2
  exact ⟨v, h1, ⟨n, hn⟩, q, r⟩
def Rest (a b c d : ByteArray) (g : Value) (h : AW) : Prop := EvQ P 35 [g, .string a, .string b] h fun _ h2 => EvQ P 35 [g, .string c, .string d] h2 fun _ h3 => EvQ P 36 [g] h3 fun v h4 => doneB v h4 = true
theorem both : EvQ P 34 [.slice none 0 0] hE fun g h1 => Rest tC tB tB tA g h1 ∧ Rest tB tA tC tB g h1 := by
  refine evals_one ?_ ?_
  · refine EvQ.mono (semR_ok 100000 34 0 0 _ hE _ (run_cb.symm ▸ trivial)) fun g h1 H => ?_
    refine EvQ.mono (semR_ok 100000 35 0 0 _ _ _ H) fun _ h2 H => ?_
    refine EvQ.mono (semR_ok 100000 35 0 0 _ _ _ H) fun _ h3 H => ?_
    refine EvQ.mono (semR_ok 100000 36 0 0 _ _ _ H) fun v h4 H => (bCE_true H).1
  · refine EvQ.mono (semR_ok 100000 34 0 0 _ hE _ (run_bc.symm ▸ trivial)) fun g h1 H => ?_
    refine EvQ.mono (semR_ok 100000 35 0 0 _ _ _ H) fun _ h2 H => ?_
    refine EvQ.mono (semR_ok 100000 35 0 0 _ _ _ H) fun _ h3 H => ?_
    refine EvQ.mono (semR_ok 100000 36 0 0 _ _ _ H) fun v h4 H => (bCE_true H).1
end Go.Proofs.YtkbioibemcmanaaGreatDoor.E
end

section
/- Who asked what: what is still to come. -/
open Go.RowKit
namespace Go.Proofs.YtkbioibemcmanaaGreatDoor.E
open Go.Abs
set_option maxRecDepth 100000
def Fin (g : Value) (h : AW) : Prop := EvQ P 36 [g] h fun v h4 => doneB v h4 = true
def St (b1 b2 : Nat) (seen : Array Nat) (g : Value) (h : AW) : Prop :=
  (seen = #[] ∧ Rest tC tB tB tA g h ∧ Rest tB tA tC tB g h) ∨ (seen = #[b1] ∧ EvQ P 35 [g, .string tB, .string tA] h fun _ h3 => Fin g h3) ∨
    (seen = #[b2] ∧ EvQ P 35 [g, .string tC, .string tB] h fun _ h3 => Fin g h3) ∨ ((seen = #[b1, b2] ∨ seen = #[b2, b1]) ∧ Fin g h)
theorem step {e1 e2 : MapEntry} (hne : e1.born ≠ e2.born) {seen : Array Nat} {g : Value} {h : AW} (S : St e1.born e2.born seen g h) :
    ((leftOf #[e1, e2] seen).size = 0 ∧ Fin g h) ∨ (seen.size < 2 ∧ (leftOf #[e1, e2] seen).size ≠ 0 ∧ ∀ e, e ∈ (leftOf #[e1, e2] seen).toList →
      (e = e1 ∧ EvQ P 35 [g, .string tC, .string tB] h fun _ h2 => St e1.born e2.born (seen.push e.born) g h2) ∨ (e = e2 ∧ EvQ P 35 [g, .string tB, .string tA] h fun _ h2 => St e1.born e2.born (seen.push e.born) g h2)) := by
  rcases S with ⟨rfl, a, b⟩ | ⟨rfl, a⟩ | ⟨rfl, a⟩ | ⟨rfl | rfl, a⟩
  · refine .inr ⟨by simp, by simp [leftOf], fun e he => ?_⟩
    simp [leftOf] at he
    rcases he with rfl | rfl
    · exact .inl ⟨rfl, EvQ.mono a fun _ h2 H => .inr (.inl ⟨rfl, H⟩)⟩
    · exact .inr ⟨rfl, EvQ.mono b fun _ h2 H => .inr (.inr (.inl ⟨rfl, H⟩))⟩
  · refine .inr ⟨by simp, by simp [leftOf, hne.symm], fun e he => ?_⟩
    simp [leftOf, hne.symm] at he
    subst he
    exact .inr ⟨rfl, EvQ.mono a fun _ h2 H => .inr (.inr (.inr ⟨.inl rfl, H⟩))⟩
  · refine .inr ⟨by simp, by simp [leftOf, hne], fun e he => ?_⟩
    simp [leftOf, hne] at he
    subst he
    exact .inl ⟨rfl, EvQ.mono a fun _ h2 H => .inr (.inr (.inr ⟨.inr rfl, H⟩))⟩
  · exact .inl ⟨by simp [leftOf], a⟩
  · exact .inl ⟨by simp [leftOf], a⟩
end Go.Proofs.YtkbioibemcmanaaGreatDoor.E
end

section
/- Who asked what: the walk. -/
open Go.RowKit
namespace Go.Proofs.YtkbioibemcmanaaGreatDoor.E
open Go.Abs
set_option maxRecDepth 100000
theorem edges_nil (w : World) : Calls P 14 #[.pointer none] w fun e w' => Below w.heap.size w w' ∧ e = .returned (.slice none 0 0) := by
  go_enter Tryz.func14, Tryz.ntmps14
  go_wp2
  go_ret
  exact ⟨Below.refl _ _, rfl⟩
theorem cell_keep {B : Zn} {a b : World} (h : BelowZ B a b) {p : Addr} {v : Value} (hz : B.Z p.block) (hc : a.cell? p = some v) : b.cell? p = some v := by
  unfold World.cell? at hc ⊢
  rw [h.block p.block hz]; exact hc
theorem cell_lt' {w : World} {p : Addr} {v : Value} (h : w.cell? p = some v) : p.block < w.heap.size := by
  rcases Nat.lt_or_ge p.block w.heap.size with h1 | h1
  · exact h1
  · simp [World.cell?, Array.getElem?_eq_none h1] at h
theorem done_at {B : Zn} {wb w0 : World} {ψ : Map} {h : AW} {w' : World} {v v' : Value} (H : HRel B wb ψ h w') (hz : ∀ k, k < w0.heap.size → B.Z k) (hd : doneB v h = true) (hv : VRel ψ v v') :
    ∃ gb cap, v' = .slice (some ⟨gb, 0, none⟩) 2 cap ∧ w0.heap.size ≤ gb ∧ gb < w'.heap.size ∧ 2 ≤ cap ∧ (∀ (k : Nat) (v : Value), [Value.string tB, .string tA, .string tC, .string tB][k]? = some v → w'.cell? ⟨gb, k, none⟩ = some v) ∧
      ∀ k, k < cap * 2 → (∃ u, w'.cell? ⟨gb, k, none⟩ = some u) ∧ w'.frozen? ⟨gb, k, none⟩ = false := by
  unfold doneB at hd
  split at hd
  rotate_left
  · cases hd
  rename_i i c
  split at hd
  rotate_left
  · cases hd
  rename_i f g lo hi sz cs ho
  split at hd
  rotate_left
  · cases hd
  rename_i fm hf
  split at hd
  rotate_left
  · cases hd
  rename_i l hl
  simp only [Bool.and_eq_true] at hd
  obtain ⟨⟨⟨⟨e1, e2⟩, e3⟩, ⟨e4, e5⟩, e6⟩, e7⟩ := hd
  have e1 := Nat.eq_of_beq_eq_true e1
  have e2 := Nat.eq_of_beq_eq_true e2
  have e3 := Nat.eq_of_beq_eq_true e3
  have e4 := Nat.le_of_ble_eq_true e4
  have e5 := Nat.eq_of_beq_eq_true e5
  have e6 := Nat.le_of_ble_eq_true e6
  have e7 := sameLV_eq e7
  subst e2 e3 e7
  obtain ⟨b, σ, κ, hp, hR⟩ := H.obj i _ ho
  obtain ⟨r1, r2, r3, r4, r5, r6⟩ := hR fm hf e1
  have hσ : σ = 0 := by omega
  subst hσ
  cases hv with
  | slice h3 hs hor =>
    rename_i b2 σ2 κ2 a'
    rw [hp] at h3
    cases h3
    rcases hor with rfl | ⟨h0, _⟩
    rotate_left
    · cases h0
    have cell : ∀ (k : Nat) (v : Value), [Value.string tB, .string tA, .string tC, .string tB][k]? = some v → w'.cell? ⟨b, k, none⟩ = some v := by
      have key : ∀ (n k : Nat) (l : List Value), h.rdN i k n = some l → ∀ (j : Nat) (v : Value), l[j]? = some v → h.rd i (k + j) = some v := by
        intro n
        induction n with
        | zero => intro k l e j v hj; simp only [AW.rdN, Option.some.injEq] at e; subst e; simp at hj
        | succ n ih =>
          intro k l e j v hj
          simp only [AW.rdN] at e
          split at e
          · rename_i x hx
            split at e
            · rename_i l2 hl2
              simp only [Option.some.injEq] at e
              subst e
              cases j with
              | zero => simp at hj; subst hj; exact hx
              | succ j => have := ih (k + 1) l2 hl2 j v (by simpa using hj); rwa [show k + 1 + j = k + (j + 1) from by omega] at this
            · cases e
          · cases e
      intro k v hk
      have := key 4 0 _ hl k v hk
      obtain ⟨_, v2, hc, hv2⟩ := H.rd this hp
      have hpl : plain1 v = true := plainL_at (l := [Value.string tB, .string tA, .string tC, .string tB]) rfl k v hk
      have hv3 := plain1_rel (ψ := ψ) hpl hv2
      have : v2 = v := by
        cases hv2 <;> first | rfl | (simp [plain1] at hpl)
      rw [this] at hc
      rw [Nat.zero_add, Nat.sub_zero] at hc
      exact hc
    refine ⟨b, c + κ, by simp, ?_, ?_, by omega, cell, fun k hk => ⟨?_, ?_⟩⟩
    · rcases Nat.lt_or_ge b w0.heap.size with hx | hx
      · exact absurd (hz b hx) r1
      · exact hx
    · exact cell_lt' (cell 0 _ rfl)
    · have := r5 k (by omega) (by omega)
      rwa [Nat.sub_zero] at this
    · have := r6 k (by omega) (by omega) (by omega)
      rwa [Nat.sub_zero] at this
theorem range_at {w1 : World} {it k e m : Nat} {es : Array MapEntry} {clock : Nat} (hu : P.underlying it = some (.map k e)) (hm : w1.heap[m]? = some (.map es clock)) : (Instr.range it (.map (some m))).run P w1 = .ok (.pointer (some ⟨w1.heap.size, 0, none⟩)) (w1.alloc (.mapIter (some m) clock #[] clock)) := by
  simp [Instr.range, Sem.run_bind, run_underlying hu, getObj, Sem.run, hm, Result.andThen, newObj]
theorem now {B : Zn} {wb w : World} {φ : Map} {h : AW} (H : HRel B wb φ h w) : HRel B w φ h w := ⟨fun k hk => H.inn k hk, .refl _ _, H.dom, H.lto, H.obj, H.fam, H.sep, H.ty⟩
def Rel (w : World) (m it clock : Nat) (e1 e2 : MapEntry) (g' : Value) (wr : World) : Prop :=
  ∃ (seen : Array Nat) (c0 : Nat) (B : Zn) (wb : World) (ψ : Map) (g : Value) (h : AW), wr.heap[it]? = some (.mapIter (some m) clock seen c0) ∧ clock ≤ c0 ∧ HRel B wb ψ h wr ∧ (globMap P.globals.size).le ψ ∧ VRel ψ g g' ∧
    (∀ k, k < w.heap.size → B.Z k) ∧ (∀ k, B.R k → k < w.heap.size) ∧ B.Z it ∧ BelowZ (Zn.lt w.heap.size) w wr ∧ St e1.born e2.born seen g h
def mu (it : Nat) (wr : World) : Nat := match wr.heap[it]? with
  | some (.mapIter _ _ seen _) => 2 - seen.size
  | _ => 0
theorem edges_walk (w : World) (r j1 j2 m n1 n2 : Nat) (a1 a2 : Addr) (es : Array MapEntry) (clock : Nat) (h1 : w.cell? ⟨r, 5, none⟩ = some (.map (some m))) (h2 : w.heap[m]? = some (.map es clock)) (hst : MapKept.Stamped es clock)
    (hes : es.toList.map (fun e => (e.key, e.val)) = [(.string tC, .pointer (some ⟨j1, 0, none⟩)), (.string tB, .pointer (some ⟨j2, 0, none⟩))])
    (h3 : w.cell? ⟨j1, 10, none⟩ = some (.slice (some a1) 1 n1)) (h4 : w.cell? a1 = some (.string tB)) (h5 : w.cell? ⟨j2, 10, none⟩ = some (.slice (some a2) 1 n2)) (h6 : w.cell? a2 = some (.string tA)) :
    Calls P 14 #[.pointer (some ⟨r, 0, none⟩)] w fun e w' => RowKit.Below w.heap.size w w' ∧
      ∃ gb cap, e = .returned (.slice (some ⟨gb, 0, none⟩) 2 cap) ∧ w.heap.size ≤ gb ∧ gb < w'.heap.size ∧ 2 ≤ cap ∧ (∀ (k : Nat) (v : Value), [Value.string tB, .string tA, .string tC, .string tB][k]? = some v → w'.cell? ⟨gb, k, none⟩ = some v) ∧
        ∀ k, k < cap * 2 → (∃ u, w'.cell? ⟨gb, k, none⟩ = some u) ∧ w'.frozen? ⟨gb, k, none⟩ = false := by
  have hmlt : m < w.heap.size := (Array.getElem?_eq_some_iff.1 h2).1
  have hG : Glob P (globMap P.globals.size) := fun g hg => by
    have : g < P.globals.size := hg
    simp only [globMap]
    rw [if_pos this]
  obtain ⟨e1, e2, hes0, hk1, hv1, hk2, hv2⟩ : ∃ e1 e2 : MapEntry, es = #[e1, e2] ∧ e1.key = .string tC ∧ e1.val = .pointer (some ⟨j1, 0, none⟩) ∧ e2.key = .string tB ∧ e2.val = .pointer (some ⟨j2, 0, none⟩) := by
    obtain ⟨l⟩ := es
    cases l with
    | nil => simp at hes
    | cons e1 l => cases l with
      | nil => simp at hes
      | cons e2 l => cases l with
        | cons e3 l => simp at hes
        | nil =>
          simp only [List.map_cons, List.map_nil, List.cons.injEq, Prod.mk.injEq, and_true] at hes
          exact ⟨e1, e2, rfl, hes.1.1, hes.1.2, hes.2.1, hes.2.2⟩
  subst hes0
  have hne : e1.born ≠ e2.born := by
    have := hst.2.1
    simp at this
    exact this
  have hold : ∀ x, x ∈ (#[e1, e2] : Array MapEntry).toList → x.born < clock := hst.1
  have hnd : ((#[e1, e2] : Array MapEntry).toList.map (·.born)).Nodup := hst.2.1
  have hnew := call_at (h := hE) both (by kernel_rfl) (φ := globMap P.globals.size) (args' := [.slice none 0 0]) (L2.cons (.sliceN 0 0) L2.nil) (glob_rel0 (n := P.globals.size) (W := w)) hG
  go_enter Tryz.func14, Tryz.ntmps14
  go_wp2_with (first | (go_at_call 34; refine hnew.mono ?_; rintro e w1 ⟨g, hg1, ψ1, g', ⟨hA, hB⟩, hle1, rfl, hgv, H1⟩; have hm1 : w1.heap[m]? = some (.map #[e1, e2] clock) := (H1.below.block m hmlt).trans h2; have hr1 : w1.cell? ⟨r, 5, none⟩ = some (.map (some m)) := cell_keep H1.below (cell_lt' h1) h1; have hrg := range_at (it := 70) Tryz.underlying70 hm1) | go_in)
  go_loopw [] (fun wr => Rel w m w1.heap.size clock e1 e2 g' wr) (fun wr => mu w1.heap.size wr)
  case atStart =>
    have hsk := H1.skip (.mapIter (some m) clock #[] clock)
    exact ⟨#[], clock, _, _, ψ1, g, hg1, heap_alloc_new w1 _, Nat.le_refl _, hsk, hle1, hgv, fun k hk => .inl hk, fun k hk => hk, .inr rfl, H1.below.alloc H1.inn _, .inl ⟨rfl, hA, hB⟩⟩
  case round =>
    have hits : w.heap.size ≤ w1.heap.size := H1.below.size
    generalize w1.heap.size = it at *
    obtain ⟨seen, c0, B, wb, ψ, g2, hh, hit, hc0, H, hle, hgv2, hZ, hR, hZit, hbel, hS⟩ := hrel
    have H := now H
    have hmr : wr.heap[m]? = some (.map #[e1, e2] clock) := (hbel.block m hmlt).trans h2
    rcases step hne hS with ⟨h0, hF⟩ | ⟨hsz, hnz, hst2⟩
    · have hnx : (Instr.next (.pointer (some ⟨it, 0, none⟩)) false 0).run P wr = .ok (.tuple #[.bool false]) wr := by
        rcases run_next_at wr 0 it m clock c0 seen #[e1, e2] clock hit hmr hold hc0 with ⟨_, e⟩ | ⟨e, he, _⟩
        · exact e
        · have : leftOf #[e1, e2] seen = #[] := Array.eq_empty_of_size_eq_zero h0
          rw [this] at he
          simp at he
      have hfin := call_at hF (by kernel_rfl) (args' := [g']) (L2.cons hgv2 L2.nil) H (hG.mono hle)
      go_wp2_with (first | (go_at_call 36; refine hfin.mono ?_; rintro e w2 ⟨v, h4, ψ2, v', hd, _, rfl, hv, H2⟩) | go_in)
      go_ret
      obtain ⟨gb, cap, rfl, rest⟩ := done_at H2 hZ hd hv
      exact ⟨(hbel.trans ⟨H2.below.os, H2.below.tape, H2.below.output, H2.below.size, fun k hk => H2.below.block k (hZ k hk)⟩).below, gb, cap, rfl, rest⟩
    · obtain ⟨e, he, wd, hwd, hnx⟩ : ∃ e, e ∈ (leftOf #[e1, e2] seen).toList ∧ ∃ wd : World, (wd = wr ∨ wd = wr.drew) ∧ (Instr.next (.pointer (some ⟨it, 0, none⟩)) false 0).run P wr = .ok (.tuple #[.bool true, e.key, e.val]) (ChangeMaps.setBlock wd it (.mapIter (some m) clock (seen.push e.born) clock)) := by
        rcases run_next_at wr 0 it m clock c0 seen #[e1, e2] clock hit hmr hold hc0 with ⟨h0, _⟩ | ⟨e, he, wd, a, b⟩
        · exact absurd h0 hnz
        · exact ⟨e, he, wd, a, b⟩
      have hitl : it < wr.heap.size := (Array.getElem?_eq_some_iff.1 hit).1
      have hwh : wd.heap = wr.heap := by rcases hwd with rfl | rfl <;> rfl
      have hbw : BelowZ (Zn.lt w.heap.size) w wd := by
        rcases hwd with rfl | rfl
        · exact hbel
        · exact hbel.drew
      obtain ⟨w2, hw2⟩ : ∃ w2, w2 = ChangeMaps.setBlock wd it (.mapIter (some m) clock (seen.push e.born) clock) := ⟨_, rfl⟩
      rw [← hw2] at hnx
      have hit2 : w2.heap[it]? = some (.mapIter (some m) clock (seen.push e.born) clock) := by
        rw [hw2]
        simp only [ChangeMaps.setBlock, hwh]
        rw [Array.getElem?_setIfInBounds_self, if_pos hitl]
      have hsame : ∀ k, k ≠ it → w2.heap[k]? = wr.heap[k]? := fun k hk => by
        rw [hw2]
        simp only [ChangeMaps.setBlock, hwh]
        rw [Array.getElem?_setIfInBounds_ne (Ne.symm hk)]
      have hsz2 : w2.heap.size = wr.heap.size := by rw [hw2]; simp [ChangeMaps.setBlock, hwh]
      have hbel2 : BelowZ (Zn.lt w.heap.size) w w2 := by
        refine ⟨?_, ?_, ?_, ?_, fun k hk => ?_⟩
        · rw [hw2]; exact hbw.os
        · rw [hw2]; exact hbw.tape
        · rw [hw2]; exact hbw.output
        · rw [hsz2]; exact hbel.size
        · have hk : k < w.heap.size := hk
          rw [hsame k (by omega)]
          exact hbel.block k hk
      have hm2 : w2.heap[m]? = some (.map #[e1, e2] clock) := (hbel2.block m hmlt).trans h2
      have he' : e ∈ (#[e1, e2] : Array MapEntry).toList := by
        have : e ∈ leftOf #[e1, e2] seen := by simpa using he
        unfold leftOf at this
        have := (Array.mem_filter.1 this).1
        simpa using this
      have hen := run_entry_at (P := P) w2 it m clock seen #[e1, e2] clock e hit2 hm2 he' hnd
      have H2 := turn H hZit (fun hr => by have := hR it hr; omega) ⟨_, _, _, hit⟩ hsz2 hsame
      clear hw2
      obtain ⟨k, s, j, n, a, ek, ev, hc1, hc2, hE⟩ : ∃ (k s : ByteArray) (j n : Nat) (a : Addr), e.key = .string k ∧ e.val = .pointer (some ⟨j, 0, none⟩) ∧ w.cell? ⟨j, 10, none⟩ = some (.slice (some a) 1 n) ∧ w.cell? a = some (.string s) ∧
          (EvQ P 35 [g2, .string k, .string s] hh fun _ h2 => St e1.born e2.born (seen.push e.born) g2 h2) := by
        rcases hst2 e he with ⟨hx, hE⟩ | ⟨hx, hE⟩
        · exact ⟨tC, tB, j1, n1, a1, hx ▸ hk1, hx ▸ hv1, h3, h4, hE⟩
        · exact ⟨tB, tA, j2, n2, a2, hx ▸ hk2, hx ▸ hv2, h5, h6, hE⟩
      rw [ek, ev] at hnx hen
      have hc1 : w2.cell? ⟨j, 10, none⟩ = some (.slice (some a) 1 n) := cell_keep hbel2 (cell_lt' hc1) hc1
      have hc2 : w2.cell? a = some (.string s) := cell_keep hbel2 (cell_lt' hc2) hc2
      have hlink := call_at hE (by kernel_rfl) (args' := [g', .string k, .string s]) (L2.cons hgv2 (L2.cons (.string _) (L2.cons (.string _) L2.nil))) H2 (hG.mono hle)
      clear hsame h1 h2 h3 h4 h5 h6 hm1 hr1 hrg hnew
      go_wp2
      refine wp_loop_rounds 2 ?_
      rw [rounds_succ]
      go_wp2_with (first | (go_at_call 35; refine hlink.mono ?_; rintro e0 w3 ⟨v, h4, ψ2, v', hSt, hle2, rfl, hv, H3⟩) | go_in)
      rw [rounds_succ]
      go_wp2
      have hit3 : w3.heap[it]? = some (.mapIter (some m) clock (seen.push e.born) clock) := (H3.below.block it hZit).trans hit2
      refine ⟨⟨seen.push e.born, clock, B, w2, ψ2, g2, h4, hit3, Nat.le_refl _, H3, Map.le_trans hle hle2, hgv2.mono hle2, hZ, hR, hZit, hbel2.trans ⟨H3.below.os, H3.below.tape, H3.below.output, H3.below.size, fun k hk => H3.below.block k (hZ k hk)⟩, hSt⟩, ?_⟩
      unfold mu
      rw [hit3, hit]
      simp only [Array.size_push]
      omega
theorem edges_c : EdgesC P 14 := ⟨edges_nil, fun w r j1 j2 m n1 n2 a1 a2 es clock h1 h2 hst hes h3 h4 h5 h6 => edges_walk w r j1 j2 m n1 n2 a1 a2 es clock h1 h2 hst hes h3 h4 h5 h6⟩
end Go.Proofs.YtkbioibemcmanaaGreatDoor.E
end

section
/- Who asked what: taken as a whole. -/
namespace Go.Proofs.YtkbioibemcmanaaGreatDoor.E
open Go.Abs
noncomputable def e_edge : Ent P := ⟨14, 0, 0, dEdge, fun C D _ _ => edge_ent (by kernel_rfl) (by kernel_rfl) (by kernel_rfl) edges_c C D⟩
end Go.Proofs.YtkbioibemcmanaaGreatDoor.E
end

section
/- The table of bodies. -/
namespace Go.Proofs.YtkbioibemcmanaaGreatDoor.E
open Go.Abs
noncomputable def tabEw : T (Ent P) := (T.set (T.set (T.set (T.set (T.set (T.set (T.set (T.set (T.set (T.set (T.set (T.set (T.set (T.set (T.set (T.set (T.set (T.set (T.set (T.set (T.set (T.set (T.set (T.set (T.set tabEv 3072 e_aq) 3076 e_b3) 3079 e_bc) 3082 e_bd) 3083 e_ar) 3084 e_as) 3085 e_at) 3087 e_au) 3090 e_av) 3091 e_aw) 3092 e_ax) 3093 e_ay) 3095 e_az) 3098 e_b0) 3101 e_b1) 3102 e_b2) 3103 e_b4) 3104 e_b5) 3105 e_b6) 3106 e_b7) 3107 e_b8) 3108 e_b9) 3109 e_ba) 3110 e_bb) 14336 e_edge)
end Go.Proofs.YtkbioibemcmanaaGreatDoor.E
end
