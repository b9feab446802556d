/- A deterministic heap for the model, proved sound, and walks of the program over it: part 13. No condition. -/
import Derived.Test.YtgdkekdedgkglaaDoorAb1
import Derived.Test.YtgdkekdedgkglaaDoorAb2
import Derived.Test.YtgdkekdedgkglaaDoorAb3
import Derived.Test.YtgdkekdedgkglaaDoorAb4
import Derived.Test.YtgdkekdedgkglaaDoorCd1
import Derived.Test.YtgdkekdedgkglaaDoorCd2
import Derived.Test.YtgdkekdedgkglaaDoorCd3
import Derived.Test.YtgdkekdedgkglaaDoorCd4
import Derived.Test.YtgdkekdedgkglaaDoorCd5
import Derived.Test.YtgdkekdedgkglaaDoorAb5
import Derived.Test.YtgdkekdedgkglaaDoorCd6
import Derived.Test.YtgdkekdedgkglaaDoorCd7
import Derived.Test.YtgdkekdedgkglaaDoorCards
import Derived.Test.YtgdkekdedgkglaaDoorTie
import Derived.OpenShut
set_option linter.unusedVariables false
set_option linter.unusedSimpArgs false
set_option linter.unusedSectionVars false
section
/- Lines put together: the law's walk. -/
namespace Go.Proofs.YtgdkekdedgkglaaDoor
open Go.Abs Go.Abs.Fo
set_option maxRecDepth 100000
attribute [local irreducible] unitAt EvQ
variable {h : AW} {μ : Paint} {ρ ρ' : Store} {Q : Value → AW → Prop}
/-- Some lines are good lines. -/
theorem good_ps {ps : List Wds} {L : List Line} (e : ps.map Wds.x = L) (h : ∀ l, l ∈ L → Good1 l) : ∀ p, p ∈ ps → ∀ w s, p.x = [w, s] → opOf w = 10 → Digs s := fun p hp w s e1 e2 =>
  (h p.x (by rw [← e]; exact List.mem_map_of_mem hp)).2.2 w s e1 e2
theorem joins_19 (O : Own h μ ρ') (T : Vw ρ [] (some ⟨2, 0, none⟩) pow10) {f : F} {a oa : Option Addr} {cap oc : Nat} (X : Ly ρ f a) (hf : Fits f) (h1 : f.may = true) (hfull : full f ≤ 262143) {ps : List Wds} (Z : Lns ρ ps oa) (hz : ps.map Wds.x = f.lines) {c p8 : Nat} {x y : Int} (W : Pcs ρ ρ' [c] [.var p8 [.int .i64 x, .int .i64 y]]) (hc : ρ c = none)
    {m : Nat} (hm : m ≤ 1000) (hq : ∀ h', Q (.bool true) h') :
    unitAt P f_brickyardlaw13_ActionJoins 19 [0, 2, 7, 13] [.slice a f.len cap, .int .i64 m, .slice oa ps.length oc, .pointer (some ⟨p8, 0, none⟩)] h Q := by
  obtain ⟨m1, m2, m3⟩ := F.may_iff.1 h1
  have hll := F.lines_len f
  have hlen : ps.length = f.lines.length := by rw [← hz]; simp
  have F0 : Fra [] ρ ρ' := W.fra0 fun d hd => by simp at hd; rw [hd]; exact hc
  refine r_brickyardlaw13_ActionJoins_19 ?_
  refine rDigits_ok O (by omega) fun h2 μ2 ρ2 O2 F2 => ?_
  simp only [oB_some, bC_true, bC_false, vInt_int, vBool_bool, vStr_string, vPtr_pointer, vSl_slice, vMap_map, vFun_func, vAgg_agg, vTup_tuple, vIfc_nil, vIfc_iface, lC_cons, lN_nil, aP_some, shO_none, shO_some, Option.isNone_none, Option.isNone_some, Bool.not_true, Bool.not_false]
  have W2 := W.keep0 F2
  obtain ⟨ρ3, cm, O3, W3, hcm⟩ := w_many O2 W2
  obtain ⟨μ4, ρ4, cl, O4, W4, hcl⟩ := w_block O3 W3 (strs [wRepeat, digS m]) (n := 2) (sz := 1) rfl rfl
  obtain ⟨μ5, ρ5, O5, W5⟩ := w_into O4 W4 hcl 0 rfl
  obtain ⟨μ6, ρ6, ct, O6, W6, hct⟩ := w_block O5 W5 ([(⟨some ⟨AW.next h2, 0, none⟩, 2, [wRepeat, digS m]⟩ : Wds)].map Wds.cell) (n := 1) (sz := 1) rfl rfl
  have fr6 : ∀ d, d ∈ [ct, cm, c] → ρ d = none := fun d hd => by simp at hd; rcases hd with rfl | rfl | rfl <;> assumption
  have F6 : Fra [] ρ ρ6 := W6.fra0 fr6
  refine w_app (P := P) O6 W6 0 (n := 1) (m := ps.length) ti_ty_sl_sl_string ti_ty_sl_string (by decide) rfl rfl ((Z.top.keep F6).sl O6) (by simp) (allOne_cells _) (by omega) (by omega) fun ta tc h7 μ7 ρ7 O7 W7 => ?_
  have W8 : Pcs ρ ρ7 [ct, cm, c] [.sl ta tc 1 (([(⟨some ⟨AW.next h2, 0, none⟩, 2, [wRepeat, digS m]⟩ : Wds)] ++ ps).map Wds.cell), .many [(some ⟨AW.next h2, 0, none⟩, 2, 1, strs [wRepeat, digS m])], .var p8 [.int .i64 x, .int .i64 y]] := W7.eq (by rw [List.map_append (l₁ := [_])]; rfl)
  simp only [oB_some, bC_true, bC_false, vInt_int, vBool_bool, vStr_string, vPtr_pointer, vSl_slice, vMap_map, vFun_func, vAgg_agg, vTup_tuple, vIfc_nil, vIfc_iface, lC_cons, lN_nil, aP_some, shO_none, shO_some, Option.isNone_none, Option.isNone_some, Bool.not_true, Bool.not_false]
  rw [show 1 + ps.length = ([(⟨some ⟨AW.next h2, 0, none⟩, 2, [wRepeat, digS m]⟩ : Wds)] ++ ps).length from by simp; omega]
  refine app_line O7 W8 0 1 (by decide) rfl rfl [wEnd] (by simp; omega) fun h8 μ8 ρ8 ta2 tc2 pe hp1 hp2 O8 W9 => ?_
  simp only [oB_some, bC_true, bC_false, vInt_int, vBool_bool, vStr_string, vPtr_pointer, vSl_slice, vMap_map, vFun_func, vAgg_agg, vTup_tuple, vIfc_nil, vIfc_iface, lC_cons, lN_nil, aP_some, shO_none, shO_some, Option.isNone_none, Option.isNone_some, Bool.not_true, Bool.not_false]
  have F8 : Fra [] ρ ρ8 := W9.fra0 fr6
  rw [show ([(⟨some ⟨AW.next h2, 0, none⟩, 2, [wRepeat, digS m]⟩ : Wds)] ++ ps).length + 1 = ([(⟨some ⟨AW.next h2, 0, none⟩, 2, [wRepeat, digS m]⟩ : Wds)] ++ ps ++ [pe]).length from by simp]
  have hx : ([(⟨some ⟨AW.next h2, 0, none⟩, 2, [wRepeat, digS m]⟩ : Wds)] ++ ps ++ [pe]).map Wds.x = (oneM m f).lines := by
    rw [one_lines, List.map_append, List.map_append, hz]; simp [hp1]
  have hcm9 := W9.at_ 1 _ _ rfl rfl
  have Z9 : Lns ρ8 ([(⟨some ⟨AW.next h2, 0, none⟩, 2, [wRepeat, digS m]⟩ : Wds)] ++ ps ++ [pe]) ta2 := by
    refine ⟨.inr (Rd.of_sl O8 (by simp) (W9.at_ 0 _ _ rfl rfl)), fun p hp => ?_, fun p hp => ?_⟩
    · simp only [List.mem_append, List.mem_singleton] at hp
      rcases hp with (rfl | hp) | rfl
      · exact Vm.read O8 hcm9 (.inr ⟨2, 1, by simp⟩)
      · exact (Z.each p hp).keep F8
      · exact Vm.read O8 hcm9 (.inr ⟨p.cap, 1, by simp⟩)
    · simp only [List.mem_append, List.mem_singleton] at hp
      rcases hp with (rfl | hp) | rfl
      · exact Nat.le_refl _
      · exact Z.caps p hp
      · rw [hp1, hp2]; exact Nat.le_refl _
  have wf1 := one_wf hm m1
  have hgood : ∀ l, l ∈ (oneM m f).lines → Good1 l := by
    rw [one_lines]
    intro l hl
    simp only [List.mem_append, List.mem_singleton] at hl
    rcases hl with (rfl | hl) | rfl
    · have : F.fine 10 ([] : List Str).length (m : Int) = true := by
        have := wf1; simp only [oneM, F.wf, Bool.and_eq_true] at this; exact this.1.1.1
      exact good_stmt this (by simp)
    · exact good_lines m1 hfull l hl
    · exact good_end
  have hol : (oneM m f).lines.length ≤ 262144 := by rw [one_lines]; simp; omega
  refine parse_ok O8 (tbs_digs (T.keep F8)) Z9 (mild_of (by rw [hx]; exact hgood) (by rw [hx]; exact hol)) (good_ps hx hgood) fun h9 μ9 ρ9 co cm2 sa sc cells vs O9 V9 hco hcm2 L9 => ?_
  rw [hx] at L9 ⊢
  simp only [oB_some, bC_true, bC_false, vInt_int, vBool_bool, vStr_string, vPtr_pointer, vSl_slice, vMap_map, vFun_func, vAgg_agg, vTup_tuple, vIfc_nil, vIfc_iface, lC_cons, lN_nil, aP_some, shO_none, shO_some, Option.isNone_none, Option.isNone_some, Bool.not_true, Bool.not_false]
  have W10 := W9.adopt2 V9 hco hcm2
  have fr10 : ∀ d, d ∈ [co, cm2, ct, cm, c] → ρ d = none := fun d hd => by
    simp only [List.mem_cons, List.not_mem_nil, or_false] at hd
    rcases hd with rfl | rfl | hd
    · exact Fra.none0 F8 hco
    · exact Fra.none0 F8 hcm2
    · exact fr6 d (by simpa using hd)
  refine w_wrL O9 W10 4 (j := 0) rfl (Nat.le_of_ble_eq_true rfl) rfl fun h10 ρ10 O10 W11 => ?_
  have F10 : Fra [] ρ ρ10 := W11.fra0 fr10
  obtain ⟨xc, xV, xL⟩ := X
  obtain ⟨μ11, ρ11, cx, O11, W12, hcx⟩ := w_block O10 W11 [.int .i64 10, .slice none 0 0, .int .i64 m, .slice a f.len cap] (n := 1) (sz := 4) rfl rfl
  have fr12 : ∀ d, d ∈ [cx, co, cm2, ct, cm, c] → ρ d = none := fun d hd => by
    rcases List.mem_cons.1 hd with rfl | hd
    · exact hcx
    · exact fr10 d hd
  have F12 : Fra [] ρ ρ11 := W12.fra0 fr12
  have X12 : Ly ρ11 f a := Ly.keep ⟨xc, xV, xL⟩ F12
  have Y12 : Ly ρ11 (oneM m f) (some ⟨AW.next h10, 0, none⟩) := ⟨_, .inr (Rd.of_sl O11 (by simp) (W12.at_ 0 _ _ rfl rfl)), none, 0, a, cap, xc, [], rfl, .inl ⟨rfl, rfl⟩, xV.keep F12, xL.mono fun _ _ z => z.keep F12, rfl⟩
  have S12 : Ly ρ11 (parseM (oneM m f).lines).1 sa := Ly.of O11 (W12.at_ 1 _ _ rfl rfl) (W12.at_ 2 _ _ rfl rfl) L9
  have hsz := one_size m f
  have hdp := one_deep m f
  obtain ⟨P1, P2⟩ := parse_lines wf1
  have hfz : f.size ≤ 1000000000 := by omega
  refine size_ok O11 X12 hfz fun h13 μ13 ρ13 O13 F13 => ?_
  have W13 := W12.keep0 F13
  simp only [oB_some, bC_true, bC_false, vInt_int, vBool_bool, vStr_string, vPtr_pointer, vSl_slice, vMap_map, vFun_func, vAgg_agg, vTup_tuple, vIfc_nil, vIfc_iface, lC_cons, lN_nil, aP_some, shO_none, shO_some, Option.isNone_none, Option.isNone_some, Bool.not_true, Bool.not_false]
  have rest : ∀ {K : Int → Prop} {h : AW} {μ : Paint} {ρ' : Store}, Own h μ ρ' → Fra [] ρ13 ρ' → ¬ ((oneM m f).deep ≤ 8 ∧ (oneM m f).size ≤ 256) →
      oB (AW.rd h p8 0) (fun v78 => vInt .i64 v78 fun n79 => bC (n79 == 3) (bC (((parseM (oneM m f).lines).1.len : Int) == 0) (EvQ P f_action_May [.slice (some ⟨AW.next h10, 0, none⟩) 1 1] h fun v80 h81 => vBool v80 fun b82 => Q (.bool !b82) h81) (Q (.bool false) h))
        (oB (AW.rd h p8 0) fun v83 => vInt .i64 v83 fun n84 => bC (n84 == 132) (bC (((parseM (oneM m f).lines).1.len : Int) == 0) (EvQ P f_action_May [.slice (some ⟨AW.next h10, 0, none⟩) 1 1] h fun v85 h86 => vBool v85 fun b87 => Q (.bool !b87) h86) (Q (.bool false) h)) (Q (.bool false) h))) := by
    intro K h μ ρ' O Fz hn
    obtain ⟨e1, e2, e3⟩ := P2 hn
    have W' := W13.keep0 Fz
    have Y' := (Y12.keep F13).keep Fz
    have may : (oneM m f).may = false := by
      cases hh : (oneM m f).may with
      | false => rfl
      | true => exact absurd (F.may_iff.1 hh).2 hn
    have fin : EvQ P f_action_May [.slice (some ⟨AW.next h10, 0, none⟩) 1 1] h fun v80 h81 => vBool v80 fun b82 => Q (.bool !b82) h81 := by
      refine may_ok O Y' (by omega) fun h1 μ1 ρ1 O1 F1 => ?_
      simp only [oB_some, bC_true, bC_false, vInt_int, vBool_bool, vStr_string, vPtr_pointer, vSl_slice, vMap_map, vFun_func, vAgg_agg, vTup_tuple, vIfc_nil, vIfc_iface, lC_cons, lN_nil, aP_some, shO_none, shO_some, Option.isNone_none, Option.isNone_some, Bool.not_true, Bool.not_false]
      rw [may]
      exact hq _
    refine w_rd O W' 5 (j := 0) rfl rfl ?_
    simp only [oB_some, bC_true, bC_false, vInt_int, vBool_bool, vStr_string, vPtr_pointer, vSl_slice, vMap_map, vFun_func, vAgg_agg, vTup_tuple, vIfc_nil, vIfc_iface, lC_cons, lN_nil, aP_some, shO_none, shO_some, Option.isNone_none, Option.isNone_some, Bool.not_true, Bool.not_false]
    rw [e1]
    rcases e2 with e2 | e2
    · rw [e2]
      exact fin
    · rw [e2]
      refine w_rd O W' 5 (j := 0) rfl rfl ?_
      simp only [oB_some, bC_true, bC_false, vInt_int, vBool_bool, vStr_string, vPtr_pointer, vSl_slice, vMap_map, vFun_func, vAgg_agg, vTup_tuple, vIfc_nil, vIfc_iface, lC_cons, lN_nil, aP_some, shO_none, shO_some, Option.isNone_none, Option.isNone_some, Bool.not_true, Bool.not_false]
      rw [e2]
      exact fin
  refine bC_iff (fun g1 => ?_) (fun g1 => ?_)
  rotate_left
  · have g1 : ¬ f.size < 256 := by have := of_decide_eq_false g1; omega
    exact rest (K := fun _ => True) O13 Fra.refl (by omega)
  have g1 : f.size < 256 := by have := of_decide_eq_true g1; omega
  refine deep_ok O13 (X12.keep F13) hfz fun h14 μ14 ρ14 O14 F14 => ?_
  simp only [oB_some, bC_true, bC_false, vInt_int, vBool_bool, vStr_string, vPtr_pointer, vSl_slice, vMap_map, vFun_func, vAgg_agg, vTup_tuple, vIfc_nil, vIfc_iface, lC_cons, lN_nil, aP_some, shO_none, shO_some, Option.isNone_none, Option.isNone_some, Bool.not_true, Bool.not_false]
  refine bC_iff (fun g2 => ?_) (fun g2 => ?_)
  rotate_left
  · have g2 : ¬ f.deep < 8 := by have := of_decide_eq_false g2; omega
    exact rest (K := fun _ => True) O14 F14 (by omega)
  have g2 : f.deep < 8 := by have := of_decide_eq_true g2; omega
  have W14 := W13.keep0 F14
  have F1214 := F13.trans F14
  have e := P1 (by omega) (by omega)
  rw [e] at W14 S12
  rw [e]
  repeat (first | refine ⟨rfl, ?_⟩ | refine ⟨trivial, ?_⟩ | simp only [oB_some, bC_true, bC_false, vInt_int, vBool_bool, vStr_string, vPtr_pointer, vSl_slice, vMap_map, vFun_func, vAgg_agg, vTup_tuple, vIfc_nil, vIfc_iface, lC_cons, lN_nil, aP_some, shO_none, shO_some, Option.isNone_none, Option.isNone_some, Bool.not_true, Bool.not_false] | refine w_rd (by assumption) (by assumption) 0 (by rfl) (by rfl) ?_ | refine w_rd (by assumption) (by assumption) 1 (by rfl) (by rfl) ?_ | refine w_rd (by assumption) (by assumption) 2 (by rfl) (by rfl) ?_ | refine w_rd (by assumption) (by assumption) 3 (by rfl) (by rfl) ?_ | refine w_rd (by assumption) (by assumption) 4 (by rfl) (by rfl) ?_ | refine w_rd (by assumption) (by assumption) 5 (by rfl) (by rfl) ?_ | refine w_wrL (by assumption) (by assumption) 0 (by rfl) (Nat.le_of_ble_eq_true (by rfl)) (by rfl) fun h ρz O W => ?_ | refine w_wrL (by assumption) (by assumption) 1 (by rfl) (Nat.le_of_ble_eq_true (by rfl)) (by rfl) fun h ρz O W => ?_ | refine w_wrL (by assumption) (by assumption) 2 (by rfl) (Nat.le_of_ble_eq_true (by rfl)) (by rfl) fun h ρz O W => ?_ | refine w_wrL (by assumption) (by assumption) 3 (by rfl) (Nat.le_of_ble_eq_true (by rfl)) (by rfl) fun h ρz O W => ?_ | refine w_wrL (by assumption) (by assumption) 4 (by rfl) (Nat.le_of_ble_eq_true (by rfl)) (by rfl) fun h ρz O W => ?_ | refine w_wrL (by assumption) (by assumption) 5 (by rfl) (Nat.le_of_ble_eq_true (by rfl)) (by rfl) fun h ρz O W => ?_ | refine w_wr (by assumption) (by assumption) 0 (by rfl) (Nat.le_of_ble_eq_true (by rfl)) (by rfl) fun h ρz O W => ?_ | refine w_wr (by assumption) (by assumption) 1 (by rfl) (Nat.le_of_ble_eq_true (by rfl)) (by rfl) fun h ρz O W => ?_ | refine w_wr (by assumption) (by assumption) 2 (by rfl) (Nat.le_of_ble_eq_true (by rfl)) (by rfl) fun h ρz O W => ?_ | refine w_wr (by assumption) (by assumption) 3 (by rfl) (Nat.le_of_ble_eq_true (by rfl)) (by rfl) fun h ρz O W => ?_ | refine w_wr (by assumption) (by assumption) 4 (by rfl) (Nat.le_of_ble_eq_true (by rfl)) (by rfl) fun h ρz O W => ?_ | refine w_wr (by assumption) (by assumption) 5 (by rfl) (Nat.le_of_ble_eq_true (by rfl)) (by rfl) fun h ρz O W => ?_)
  rw [show ((0 : Int) == 0 && ((0 : Int) == 0 && true)) = true from rfl]
  simp only [oB_some, bC_true, bC_false, vInt_int, vBool_bool, vStr_string, vPtr_pointer, vSl_slice, vMap_map, vFun_func, vAgg_agg, vTup_tuple, vIfc_nil, vIfc_iface, lC_cons, lN_nil, aP_some, shO_none, shO_some, Option.isNone_none, Option.isNone_some, Bool.not_true, Bool.not_false]
  have hone : (oneM m f).len = 1 := rfl
  have S14 := S12.keep F1214
  have Y14 := Y12.keep F1214
  have X14 := X12.keep F1214
  have hfit : Fits (oneM m f) := ⟨by simp, fun s hs => by simp at hs, by have := F.len_le f; omega, hf, trivial⟩
  refine same_ok O14 S14 Y14 hfit (by rw [hone]; omega) fun h15 μ15 ρ15 O15 F15 => ?_
  simp only [oB_some, bC_true, bC_false, vInt_int, vBool_bool, vStr_string, vPtr_pointer, vSl_slice, vMap_map, vFun_func, vAgg_agg, vTup_tuple, vIfc_nil, vIfc_iface, lC_cons, lN_nil, aP_some, shO_none, shO_some, Option.isNone_none, Option.isNone_some, Bool.not_true, Bool.not_false]
  rw [F.eqB_self]
  simp only [oB_some, bC_true, bC_false, vInt_int, vBool_bool, vStr_string, vPtr_pointer, vSl_slice, vMap_map, vFun_func, vAgg_agg, vTup_tuple, vIfc_nil, vIfc_iface, lC_cons, lN_nil, aP_some, shO_none, shO_some, Option.isNone_none, Option.isNone_some, Bool.not_true, Bool.not_false]
  refine may_ok O15 (Y14.keep F15) (by omega) fun h16 μ16 ρ16 O16 F16 => ?_
  simp only [oB_some, bC_true, bC_false, vInt_int, vBool_bool, vStr_string, vPtr_pointer, vSl_slice, vMap_map, vFun_func, vAgg_agg, vTup_tuple, vIfc_nil, vIfc_iface, lC_cons, lN_nil, aP_some, shO_none, shO_some, Option.isNone_none, Option.isNone_some, Bool.not_true, Bool.not_false]
  rw [F.may_iff.2 ⟨wf1, by omega, by omega⟩]
  simp only [oB_some, bC_true, bC_false, vInt_int, vBool_bool, vStr_string, vPtr_pointer, vSl_slice, vMap_map, vFun_func, vAgg_agg, vTup_tuple, vIfc_nil, vIfc_iface, lC_cons, lN_nil, aP_some, shO_none, shO_some, Option.isNone_none, Option.isNone_some, Bool.not_true, Bool.not_false]
  have F1416 := F15.trans F16
  refine size_ok O16 (Y14.keep F1416) (by omega) fun h17 μ17 ρ17 O17 F17 => ?_
  simp only [oB_some, bC_true, bC_false, vInt_int, vBool_bool, vStr_string, vPtr_pointer, vSl_slice, vMap_map, vFun_func, vAgg_agg, vTup_tuple, vIfc_nil, vIfc_iface, lC_cons, lN_nil, aP_some, shO_none, shO_some, Option.isNone_none, Option.isNone_some, Bool.not_true, Bool.not_false]
  have F1417 := F1416.trans F17
  refine size_ok O17 (X14.keep F1417) hfz fun h18 μ18 ρ18 O18 F18 => ?_
  simp only [oB_some, bC_true, bC_false, vInt_int, vBool_bool, vStr_string, vPtr_pointer, vSl_slice, vMap_map, vFun_func, vAgg_agg, vTup_tuple, vIfc_nil, vIfc_iface, lC_cons, lN_nil, aP_some, shO_none, shO_some, Option.isNone_none, Option.isNone_some, Bool.not_true, Bool.not_false]
  rw [wrapS (by omega), hsz, show (((f.size + 1 : Nat) : Int) == ((f.size + 1 : Nat) : Int)) = true from by simp]
  simp only [oB_some, bC_true, bC_false, vInt_int, vBool_bool, vStr_string, vPtr_pointer, vSl_slice, vMap_map, vFun_func, vAgg_agg, vTup_tuple, vIfc_nil, vIfc_iface, lC_cons, lN_nil, aP_some, shO_none, shO_some, Option.isNone_none, Option.isNone_some, Bool.not_true, Bool.not_false]
  have F1418 := F1417.trans F18
  refine deep_ok O18 (Y14.keep F1418) (by omega) fun h19 μ19 ρ19 O19 F19 => ?_
  simp only [oB_some, bC_true, bC_false, vInt_int, vBool_bool, vStr_string, vPtr_pointer, vSl_slice, vMap_map, vFun_func, vAgg_agg, vTup_tuple, vIfc_nil, vIfc_iface, lC_cons, lN_nil, aP_some, shO_none, shO_some, Option.isNone_none, Option.isNone_some, Bool.not_true, Bool.not_false]
  have F1419 := F1418.trans F19
  refine deep_ok O19 (X14.keep F1419) hfz fun h20 μ20 ρ20 O20 F20 => ?_
  simp only [oB_some, bC_true, bC_false, vInt_int, vBool_bool, vStr_string, vPtr_pointer, vSl_slice, vMap_map, vFun_func, vAgg_agg, vTup_tuple, vIfc_nil, vIfc_iface, lC_cons, lN_nil, aP_some, shO_none, shO_some, Option.isNone_none, Option.isNone_some, Bool.not_true, Bool.not_false]
  rw [wrapS (by omega), hdp, show (((f.deep + 1 : Nat) : Int) == ((f.deep + 1 : Nat) : Int)) = true from by simp]
  exact hq _
theorem joins_16 (O : Own h μ ρ') (T : Vw ρ [] (some ⟨2, 0, none⟩) pow10) {f : F} {a oa : Option Addr} {cap oc : Nat} (X : Ly ρ f a) (hf : Fits f) (h1 : f.may = true) (hfull : full f ≤ 262143) {ps : List Wds} (Z : Lns ρ ps oa) (hz : ps.map Wds.x = f.lines) {c p8 : Nat} {x y : Int} (W : Pcs ρ ρ' [c] [.var p8 [.int .i64 x, .int .i64 y]]) (hc : ρ c = none)
    {n : Int} (hq : ∀ h', Q (.bool true) h') :
    unitAt P f_brickyardlaw13_ActionJoins 16 [0, 2, 7, 13] [.slice a f.len cap, .int .i64 n, .slice oa ps.length oc, .pointer (some ⟨p8, 0, none⟩)] h Q := by
  refine r_brickyardlaw13_ActionJoins_16 ?_
  have b1 : Int.tmod n 1001 < 1001 := Int.tmod_lt_of_pos _ (by decide)
  have b2 : -1001 < Int.tmod n 1001 := Int.lt_tmod_of_pos _ (by decide)
  refine bC_iff (fun e => ?_) (fun e => ?_)
  · have e := of_decide_eq_true e
    obtain ⟨m, hm⟩ : ∃ m : Nat, Int.tmod n 1001 + 1001 = m := ⟨(Int.tmod n 1001 + 1001).toNat, by omega⟩
    rw [hm, Go.Abs.wrap_small (n := (m : Int)) (by omega) (by omega)]
    exact joins_19 O T X hf h1 hfull Z hz W hc (by omega) hq
  · have e := of_decide_eq_false e
    obtain ⟨m, hm⟩ : ∃ m : Nat, Int.tmod n 1001 = m := ⟨(Int.tmod n 1001).toNat, by omega⟩
    rw [hm]
    exact joins_19 O T X hf h1 hfull Z hz W hc (by omega) hq
theorem actionJoins_ok (O : Own h μ ρ) (T : Vw ρ [] (some ⟨2, 0, none⟩) pow10) {f g : F} {a b : Option Addr} {ca cb : Nat} (X : Ly ρ f a) (Y : Ly ρ g b) (hf : Fits f) (hg : Fits g) (lf : f.len ≤ 140737488351232) (lg : g.len ≤ 140737488351232) {n : Int} (hq : ∀ h', Q (.bool true) h') :
    EvQ P f_brickyardlaw13_ActionJoins [.slice a f.len ca, .slice b g.len cb, .int .i64 n] h Q := by
  refine r_brickyardlaw13_ActionJoins ?_
  refine works_ok O fun h1 μ1 ρ1 O1 F1 => ?_
  simp only [oB_some, bC_true, bC_false, vInt_int, vBool_bool, vStr_string, vPtr_pointer, vSl_slice, vMap_map, vFun_func, vAgg_agg, vTup_tuple, vIfc_nil, vIfc_iface, lC_cons, lN_nil, aP_some, shO_none, shO_some, Option.isNone_none, Option.isNone_some, Bool.not_true, Bool.not_false]
  refine great_ok O1 (X.keep F1) hf (by omega) ?_
  simp only [oB_some, bC_true, bC_false, vInt_int, vBool_bool, vStr_string, vPtr_pointer, vSl_slice, vMap_map, vFun_func, vAgg_agg, vTup_tuple, vIfc_nil, vIfc_iface, lC_cons, lN_nil, aP_some, shO_none, shO_some, Option.isNone_none, Option.isNone_some, Bool.not_true, Bool.not_false]
  refine bC_iff (fun _ => hq _) (fun e1 => ?_)
  refine great_ok O1 (Y.keep F1) hg (by omega) ?_
  simp only [oB_some, bC_true, bC_false, vInt_int, vBool_bool, vStr_string, vPtr_pointer, vSl_slice, vMap_map, vFun_func, vAgg_agg, vTup_tuple, vIfc_nil, vIfc_iface, lC_cons, lN_nil, aP_some, shO_none, shO_some, Option.isNone_none, Option.isNone_some, Bool.not_true, Bool.not_false]
  refine bC_iff (fun _ => hq _) (fun e2 => ?_)
  obtain ⟨e1, _⟩ := great_not e1
  obtain ⟨e2, _⟩ := great_not e2
  have z1 := F.size_full f
  have z2 := F.size_full g
  refine may_ok O1 (X.keep F1) (by omega) fun h2 μ2 ρ2 O2 F2 => ?_
  simp only [oB_some, bC_true, bC_false, vInt_int, vBool_bool, vStr_string, vPtr_pointer, vSl_slice, vMap_map, vFun_func, vAgg_agg, vTup_tuple, vIfc_nil, vIfc_iface, lC_cons, lN_nil, aP_some, shO_none, shO_some, Option.isNone_none, Option.isNone_some, Bool.not_true, Bool.not_false]
  refine bC_iff (fun _ => hq _) (fun m1 => ?_)
  have m1 := nb' m1
  have F12 := F1.trans F2
  refine may_ok O2 (Y.keep F12) (by omega) fun h3 μ3 ρ3 O3 F3 => ?_
  simp only [oB_some, bC_true, bC_false, vInt_int, vBool_bool, vStr_string, vPtr_pointer, vSl_slice, vMap_map, vFun_func, vAgg_agg, vTup_tuple, vIfc_nil, vIfc_iface, lC_cons, lN_nil, aP_some, shO_none, shO_some, Option.isNone_none, Option.isNone_some, Bool.not_true, Bool.not_false]
  refine bC_iff (fun _ => hq _) (fun m2 => ?_)
  have m2 := nb' m2
  have F13 := F12.trans F3
  obtain ⟨a1, a2, a3⟩ := F.may_iff.1 m1
  obtain ⟨b1, b2, b3⟩ := F.may_iff.1 m2
  refine linesB_ok O3 (T.keep F13) (X.keep F13) (by omega) (by omega) (slim_full (by omega)) (fun e => by rw [m1] at e; cases e) fun _ h4 μ4 ρ4 co cm oa oc ps vs O4 W4 hco hcm B4 x4 => ?_
  simp only [oB_some, bC_true, bC_false, vInt_int, vBool_bool, vStr_string, vPtr_pointer, vSl_slice, vMap_map, vFun_func, vAgg_agg, vTup_tuple, vIfc_nil, vIfc_iface, lC_cons, lN_nil, aP_some, shO_none, shO_some, Option.isNone_none, Option.isNone_some, Bool.not_true, Bool.not_false]
  have fr4 : ∀ d, d ∈ [co, cm] → ρ3 d = none := fun d hd => by simp at hd; rcases hd with rfl | rfl <;> assumption
  have F34 := W4.fra0 fr4
  have F14 := F13.trans F34
  refine linesB_ok O4 (T.keep F14) (Y.keep F14) (by omega) (by omega) (slim_full (by omega)) (fun e => by rw [m2] at e; cases e) fun _ h5 μ5 ρ5 co2 cm2 oa2 oc2 qs vs2 O5 W5 hco2 hcm2 B5 x5 => ?_
  simp only [oB_some, bC_true, bC_false, vInt_int, vBool_bool, vStr_string, vPtr_pointer, vSl_slice, vMap_map, vFun_func, vAgg_agg, vTup_tuple, vIfc_nil, vIfc_iface, lC_cons, lN_nil, aP_some, shO_none, shO_some, Option.isNone_none, Option.isNone_some, Bool.not_true, Bool.not_false]
  have W5 := W4.adopt2 W5 hco2 hcm2
  have fr5 : ∀ d, d ∈ [co2, cm2, co, cm] → ρ3 d = none := fun d hd => by
    simp only [List.mem_cons, List.not_mem_nil, or_false] at hd
    rcases hd with rfl | rfl | hd
    · exact Fra.none0 F34 hco2
    · exact Fra.none0 F34 hcm2
    · exact fr4 d (by simpa using hd)
  have l4 : ps.length = f.lines.length := by rw [← x4]; simp
  have l5 : qs.length = g.lines.length := by rw [← x5]; simp
  have k4 := F.lines_len f
  have k5 := F.lines_len g
  have n4 := F.len_le f
  have n5 := F.len_le g
  rw [show ((0 : Int) != 0) = false from rfl]
  simp only [oB_some, bC_true, bC_false, vInt_int, vBool_bool, vStr_string, vPtr_pointer, vSl_slice, vMap_map, vFun_func, vAgg_agg, vTup_tuple, vIfc_nil, vIfc_iface, lC_cons, lN_nil, aP_some, shO_none, shO_some, Option.isNone_none, Option.isNone_some, Bool.not_true, Bool.not_false]
  -- both
  obtain ⟨xc, xV, xL⟩ := X
  obtain ⟨yc, yV, yL⟩ := Y
  obtain ⟨μ6, ρ6, cb, O6, W6, hcb⟩ := w_block O5 W5 [] (n := 0) (sz := 4) rfl rfl
  have fr6 : ∀ d, d ∈ [cb, co2, cm2, co, cm] → ρ3 d = none := fun d hd => by
    rcases List.mem_cons.1 hd with rfl | hd
    · exact hcb
    · exact fr5 d hd
  have F16 := F13.trans (W6.fra0 fr6)
  refine w_app (P := P) O6 W6 0 (n := 0) (m := f.len) ti_ty_sl_api_Stmt ti_ty_api_Stmt (by decide) rfl rfl ((xV.keep F16).sl O6) xL.len (lies_one xL) (by omega) (by omega) fun ba bc h7 μ7 ρ7 O7 W7 => ?_
  simp only [oB_some, bC_true, bC_false, vInt_int, vBool_bool, vStr_string, vPtr_pointer, vSl_slice, vMap_map, vFun_func, vAgg_agg, vTup_tuple, vIfc_nil, vIfc_iface, lC_cons, lN_nil, aP_some, shO_none, shO_some, Option.isNone_none, Option.isNone_some, Bool.not_true, Bool.not_false]
  have W7 : Pcs ρ3 ρ7 [cb, co2, cm2, co, cm] [.sl ba bc 4 xc, .sl oa2 oc2 1 (qs.map Wds.cell), .many vs2, .sl oa oc 1 (ps.map Wds.cell), .many vs] := W7
  have F17 := F13.trans (W7.fra0 fr6)
  rw [Nat.zero_add]
  refine w_app (P := P) O7 W7 0 (n := f.len) (m := g.len) ti_ty_sl_api_Stmt ti_ty_api_Stmt (by decide) rfl xL.len ((yV.keep F17).sl O7) yL.len (lies_one yL) (by omega) (by omega) fun ba2 bc2 h8 μ8 ρ8 O8 W8 => ?_
  simp only [oB_some, bC_true, bC_false, vInt_int, vBool_bool, vStr_string, vPtr_pointer, vSl_slice, vMap_map, vFun_func, vAgg_agg, vTup_tuple, vIfc_nil, vIfc_iface, lC_cons, lN_nil, aP_some, shO_none, shO_some, Option.isNone_none, Option.isNone_some, Bool.not_true, Bool.not_false]
  have W8 : Pcs ρ3 ρ8 [cb, co2, cm2, co, cm] [.sl ba2 bc2 4 (xc ++ yc), .sl oa2 oc2 1 (qs.map Wds.cell), .many vs2, .sl oa oc 1 (ps.map Wds.cell), .many vs] := W8
  -- their lines
  obtain ⟨μ9, ρ9, ct, O9, W9, hct⟩ := w_block O8 W8 [] (n := 0) (sz := 1) rfl rfl
  refine w_app (P := P) O9 W9 0 (n := 0) (m := ps.length) ti_ty_sl_sl_string ti_ty_sl_string (by decide) rfl rfl (w_sl O9 W9 4 rfl) (by simp) (allOne_cells _) (by omega) (by omega) fun ta tc h10 μ10 ρ10 O10 W10 => ?_
  simp only [oB_some, bC_true, bC_false, vInt_int, vBool_bool, vStr_string, vPtr_pointer, vSl_slice, vMap_map, vFun_func, vAgg_agg, vTup_tuple, vIfc_nil, vIfc_iface, lC_cons, lN_nil, aP_some, shO_none, shO_some, Option.isNone_none, Option.isNone_some, Bool.not_true, Bool.not_false]
  rw [Nat.zero_add]
  refine w_app (P := P) O10 W10 0 (n := ps.length) (m := qs.length) ti_ty_sl_sl_string ti_ty_sl_string (by decide) rfl (by simp) (w_sl O10 W10 2 rfl) (by simp) (allOne_cells _) (by omega) (by omega) fun ta2 tc2 h11 μ11 ρ11 O11 W11 => ?_
  simp only [oB_some, bC_true, bC_false, vInt_int, vBool_bool, vStr_string, vPtr_pointer, vSl_slice, vMap_map, vFun_func, vAgg_agg, vTup_tuple, vIfc_nil, vIfc_iface, lC_cons, lN_nil, aP_some, shO_none, shO_some, Option.isNone_none, Option.isNone_some, Bool.not_true, Bool.not_false]
  have W11 : Pcs ρ3 ρ11 [ct, cb, co2, cm2, co, cm] [.sl ta2 tc2 1 ((ps ++ qs).map Wds.cell), .sl ba2 bc2 4 (xc ++ yc), .sl oa2 oc2 1 (qs.map Wds.cell), .many vs2, .sl oa oc 1 (ps.map Wds.cell), .many vs] := W11.eq (by simp)
  have fr11 : ∀ d, d ∈ [ct, cb, co2, cm2, co, cm] → ρ3 d = none := fun d hd => by
    rcases List.mem_cons.1 hd with rfl | hd
    · exact hct
    · exact fr6 d hd
  have F11 := F13.trans (W11.fra0 fr11)
  rw [show ps.length + qs.length = (ps ++ qs).length from by simp]
  have Zf : Lns ρ11 ps oa := B4.lns O11 (W11.at_ 4 _ _ rfl rfl) (W11.at_ 5 _ _ rfl rfl)
  have Zg : Lns ρ11 qs oa2 := B5.lns O11 (W11.at_ 2 _ _ rfl rfl) (W11.at_ 3 _ _ rfl rfl)
  have Zb : Lns ρ11 (ps ++ qs) ta2 := by
    refine ⟨.inr (Rd.of_sl O11 (by simp) (W11.at_ 0 _ _ rfl rfl)), fun p hp => ?_, fun p hp => ?_⟩
    · rcases List.mem_append.1 hp with hp | hp
      · exact Zf.each p hp
      · exact Zg.each p hp
    · rcases List.mem_append.1 hp with hp | hp
      · exact Zf.caps p hp
      · exact Zg.caps p hp
  have Xb : Ly ρ11 (f.app g) ba2 := ⟨_, .inr (Rd.of_sl O11 (by simp) (W11.at_ 1 _ _ rfl rfl)), (xL.mono fun _ _ z => z.keep F11).app (yL.mono fun _ _ z => z.keep F11)⟩
  have X11 : Ly ρ11 f a := Ly.keep ⟨xc, xV, xL⟩ F11
  have Y11 : Ly ρ11 g b := Ly.keep ⟨yc, yV, yL⟩ F11
  have hx : (ps ++ qs).map Wds.x = (f.app g).lines := by rw [F.lines_app, List.map_append, x4, x5]
  have hgood : ∀ l, l ∈ (f.app g).lines → Good1 l := by
    rw [F.lines_app]
    intro l hl
    rcases List.mem_append.1 hl with hl | hl
    · exact good_lines a1 (by omega) l hl
    · exact good_lines b1 (by omega) l hl
  have hbl : (f.app g).lines.length ≤ 262144 := by rw [F.lines_app]; simp; omega
  have wfb : (f.app g).wf = true := by rw [F.wf_app, a1, b1]; rfl
  have hsz := F.size_app f g
  have hdp := F.deep_app f g
  obtain ⟨P1, P2⟩ := parse_lines wfb
  refine parse_spot O11 (tbs_digs (T.keep F11)) Zb (mild_of (by rw [hx]; exact hgood) (by rw [hx]; exact hbl)) (good_ps hx hgood) p00 fun h12 h13 μ13 ρ13 cs co3 cm3 sa sc cells vs3 O13 W13 F13' hcs hco3 hcm3 L13 => ?_
  rw [hx] at L13 W13 ⊢
  refine size_ok O13 (X11.keep F13') (by omega) fun h14 μ14 ρ14 O14 F14 => ?_
  simp only [oB_some, bC_true, bC_false, vInt_int, vBool_bool, vStr_string, vPtr_pointer, vSl_slice, vMap_map, vFun_func, vAgg_agg, vTup_tuple, vIfc_nil, vIfc_iface, lC_cons, lN_nil, aP_some, shO_none, shO_some, Option.isNone_none, Option.isNone_some, Bool.not_true, Bool.not_false]
  have F1114 := F13'.trans F14
  refine size_ok O14 (Y11.keep F1114) (by omega) fun h15 μ15 ρ15 O15 F15 => ?_
  simp only [oB_some, bC_true, bC_false, vInt_int, vBool_bool, vStr_string, vPtr_pointer, vSl_slice, vMap_map, vFun_func, vAgg_agg, vTup_tuple, vIfc_nil, vIfc_iface, lC_cons, lN_nil, aP_some, shO_none, shO_some, Option.isNone_none, Option.isNone_some, Bool.not_true, Bool.not_false]
  have F1115 := F1114.trans F15
  have W15 := (W13.keep0 F14).keep0 F15
  rw [show ((f.size : Int) + (g.size : Int)) = ((f.size + g.size : Nat) : Int) from by push_cast; rfl, Go.Abs.wrap_small (n := ((f.size + g.size : Nat) : Int)) (by omega) (by omega)]
  have TT := T.keep F11
  refine bC_iff (fun e => ?_) (fun e => ?_)
  · have e : 256 < f.size + g.size := by have := of_decide_eq_true e; omega
    obtain ⟨r1, r2, r3⟩ := P2 (by omega)
    have r3 := r3 (by omega)
    refine w_rd O15 W15 0 (j := 0) rfl rfl ?_
    simp only [oB_some, bC_true, bC_false, vInt_int, vBool_bool, vStr_string, vPtr_pointer, vSl_slice, vMap_map, vFun_func, vAgg_agg, vTup_tuple, vIfc_nil, vIfc_iface, lC_cons, lN_nil, aP_some, shO_none, shO_some, Option.isNone_none, Option.isNone_some, Bool.not_true, Bool.not_false]
    rw [r3, r1]
    rw [show ((3 : Int) != 3) = false from rfl]
    simp only [oB_some, bC_true, bC_false, vInt_int, vBool_bool, vStr_string, vPtr_pointer, vSl_slice, vMap_map, vFun_func, vAgg_agg, vTup_tuple, vIfc_nil, vIfc_iface, lC_cons, lN_nil, aP_some, shO_none, shO_some, Option.isNone_none, Option.isNone_some, Bool.not_true, Bool.not_false]
    rw [show (((F.nil.len : Nat) : Int) != 0) = false from rfl]
    simp only [oB_some, bC_true, bC_false, vInt_int, vBool_bool, vStr_string, vPtr_pointer, vSl_slice, vMap_map, vFun_func, vAgg_agg, vTup_tuple, vIfc_nil, vIfc_iface, lC_cons, lN_nil, aP_some, shO_none, shO_some, Option.isNone_none, Option.isNone_some, Bool.not_true, Bool.not_false]
    rw [show f.len + g.len = (f.app g).len from (F.app_len f g).symm]
    refine may_ok O15 (Xb.keep F1115) (by omega) fun h16 μ16 ρ16 O16 F16 => ?_
    simp only [oB_some, bC_true, bC_false, vInt_int, vBool_bool, vStr_string, vPtr_pointer, vSl_slice, vMap_map, vFun_func, vAgg_agg, vTup_tuple, vIfc_nil, vIfc_iface, lC_cons, lN_nil, aP_some, shO_none, shO_some, Option.isNone_none, Option.isNone_some, Bool.not_true, Bool.not_false]
    have may : (f.app g).may = false := by
      cases hh : (f.app g).may with
      | false => rfl
      | true => have := (F.may_iff.1 hh).2.2; omega
    rw [may]
    simp only [oB_some, bC_true, bC_false, vInt_int, vBool_bool, vStr_string, vPtr_pointer, vSl_slice, vMap_map, vFun_func, vAgg_agg, vTup_tuple, vIfc_nil, vIfc_iface, lC_cons, lN_nil, aP_some, shO_none, shO_some, Option.isNone_none, Option.isNone_some, Bool.not_true, Bool.not_false]
    exact joins_16 O16 TT X11 hf m1 (by omega) Zf x4 ((((W15.tail2 hco3).tail2 hcm3).keep0 F16)) hcs hq
  · have e : ¬ 256 < f.size + g.size := by have := of_decide_eq_false e; omega
    have r := P1 (by omega) (by omega)
    rw [r] at W15 L13 ⊢
    have S15 : Ly ρ15 (f.app g) sa := Ly.of O15 (W15.at_ 1 _ _ rfl rfl) (W15.at_ 2 _ _ rfl rfl) L13
    repeat (first | refine ⟨rfl, ?_⟩ | refine ⟨trivial, ?_⟩ | simp only [oB_some, bC_true, bC_false, vInt_int, vBool_bool, vStr_string, vPtr_pointer, vSl_slice, vMap_map, vFun_func, vAgg_agg, vTup_tuple, vIfc_nil, vIfc_iface, lC_cons, lN_nil, aP_some, shO_none, shO_some, Option.isNone_none, Option.isNone_some, Bool.not_true, Bool.not_false] | refine w_rd (by assumption) (by assumption) 0 (by rfl) (by rfl) ?_ | refine w_rd (by assumption) (by assumption) 1 (by rfl) (by rfl) ?_ | refine w_rd (by assumption) (by assumption) 2 (by rfl) (by rfl) ?_ | refine w_wrL (by assumption) (by assumption) 0 (by rfl) (Nat.le_of_ble_eq_true (by rfl)) (by rfl) fun h ρz O W => ?_ | refine w_wrL (by assumption) (by assumption) 1 (by rfl) (Nat.le_of_ble_eq_true (by rfl)) (by rfl) fun h ρz O W => ?_ | refine w_wrL (by assumption) (by assumption) 2 (by rfl) (Nat.le_of_ble_eq_true (by rfl)) (by rfl) fun h ρz O W => ?_ | refine w_wr (by assumption) (by assumption) 0 (by rfl) (Nat.le_of_ble_eq_true (by rfl)) (by rfl) fun h ρz O W => ?_ | refine w_wr (by assumption) (by assumption) 1 (by rfl) (Nat.le_of_ble_eq_true (by rfl)) (by rfl) fun h ρz O W => ?_ | refine w_wr (by assumption) (by assumption) 2 (by rfl) (Nat.le_of_ble_eq_true (by rfl)) (by rfl) fun h ρz O W => ?_)
    rw [show ((0 : Int) == 0 && ((0 : Int) == 0 && true)) = true from rfl]
    simp only [oB_some, bC_true, bC_false, vInt_int, vBool_bool, vStr_string, vPtr_pointer, vSl_slice, vMap_map, vFun_func, vAgg_agg, vTup_tuple, vIfc_nil, vIfc_iface, lC_cons, lN_nil, aP_some, shO_none, shO_some, Option.isNone_none, Option.isNone_some, Bool.not_true, Bool.not_false]
    rw [show f.len + g.len = (f.app g).len from (F.app_len f g).symm]
    have Xb15 := Xb.keep F1115
    refine same_ok O15 S15 Xb15 (fits_app hf hg) (by have := F.len_le (f.app g); omega) fun h16 μ16 ρ16 O16 F16 => ?_
    simp only [oB_some, bC_true, bC_false, vInt_int, vBool_bool, vStr_string, vPtr_pointer, vSl_slice, vMap_map, vFun_func, vAgg_agg, vTup_tuple, vIfc_nil, vIfc_iface, lC_cons, lN_nil, aP_some, shO_none, shO_some, Option.isNone_none, Option.isNone_some, Bool.not_true, Bool.not_false]
    rw [F.eqB_self]
    simp only [oB_some, bC_true, bC_false, vInt_int, vBool_bool, vStr_string, vPtr_pointer, vSl_slice, vMap_map, vFun_func, vAgg_agg, vTup_tuple, vIfc_nil, vIfc_iface, lC_cons, lN_nil, aP_some, shO_none, shO_some, Option.isNone_none, Option.isNone_some, Bool.not_true, Bool.not_false]
    have W16 := W15.keep0 F16
    refine deep_ok O16 (Xb15.keep F16) (by omega) fun h17 μ17 ρ17 O17 F17 => ?_
    simp only [oB_some, bC_true, bC_false, vInt_int, vBool_bool, vStr_string, vPtr_pointer, vSl_slice, vMap_map, vFun_func, vAgg_agg, vTup_tuple, vIfc_nil, vIfc_iface, lC_cons, lN_nil, aP_some, shO_none, shO_some, Option.isNone_none, Option.isNone_some, Bool.not_true, Bool.not_false]
    have W17 := W16.keep0 F17
    have F1117 := (F1115.trans F16).trans F17
    refine deep_ok O17 (X11.keep F1117) (by omega) fun h18 μ18 ρ18 O18 F18 => ?_
    simp only [oB_some, bC_true, bC_false, vInt_int, vBool_bool, vStr_string, vPtr_pointer, vSl_slice, vMap_map, vFun_func, vAgg_agg, vTup_tuple, vIfc_nil, vIfc_iface, lC_cons, lN_nil, aP_some, shO_none, shO_some, Option.isNone_none, Option.isNone_some, Bool.not_true, Bool.not_false]
    have W18 := W17.keep0 F18
    have F1118 := F1117.trans F18
    refine deep_ok O18 (Y11.keep F1118) (by omega) fun h19 μ19 ρ19 O19 F19 => ?_
    simp only [oB_some, bC_true, bC_false, vInt_int, vBool_bool, vStr_string, vPtr_pointer, vSl_slice, vMap_map, vFun_func, vAgg_agg, vTup_tuple, vIfc_nil, vIfc_iface, lC_cons, lN_nil, aP_some, shO_none, shO_some, Option.isNone_none, Option.isNone_some, Bool.not_true, Bool.not_false]
    have W19 := W18.keep0 F19
    rw [imax, hdp, show (((max f.deep g.deep : Nat) : Int) != ((max f.deep g.deep : Nat) : Int)) = false from by simp]
    simp only [oB_some, bC_true, bC_false, vInt_int, vBool_bool, vStr_string, vPtr_pointer, vSl_slice, vMap_map, vFun_func, vAgg_agg, vTup_tuple, vIfc_nil, vIfc_iface, lC_cons, lN_nil, aP_some, shO_none, shO_some, Option.isNone_none, Option.isNone_some, Bool.not_true, Bool.not_false]
    exact joins_16 O19 TT X11 hf m1 (by omega) Zf x4 ((W19.tail2 hco3).tail2 hcm3) hcs hq
end Go.Proofs.YtgdkekdedgkglaaDoor
end

section
/- What the rows of layer 13 share: types, a world for the witness. -/
open Go.RowKit
namespace Go.Proofs.YtgdkekdedgkglaaDoor
open Go.Abs Go.Abs.Fo Go.ChangeShapes Go.WideShapes
set_option maxRecDepth 100000
theorem own_knob : ownKnob Tryd.prog.godebug = none := by kernel_rfl
theorem st_types : StT Tryd.prog 39 46 3 26 9 #[⟨"Op", 3, 0, false, "", "", 0⟩, ⟨"Args", 26, 1, false, "", "", 8⟩, ⟨"N", 3, 2, false, "", "", 32⟩, ⟨"Body", 39, 3, false, "", "", 40⟩] :=
  ⟨by kernel_rfl, by kernel_rfl, by kernel_rfl, by kernel_rfl, by kernel_rfl, by kernel_rfl, by kernel_rfl, by kernel_rfl, by kernel_rfl, by kernel_rfl, of_decide_eq_true (by kernel_rfl), of_decide_eq_true (by kernel_rfl), ⟨_, rfl, rfl, rfl⟩, ⟨_, rfl, rfl, rfl⟩, ⟨_, rfl, rfl, rfl⟩, ⟨_, rfl, rfl, rfl⟩⟩
theorem ly_of {W : World} {f : F} {cells : List Value} {a : Option Addr} {vs ws : List (Option Addr × List Value)} (G : GoodV W ws) (hs : ∀ x, x ∈ vs → x ∈ ws) (V : Vin vs a cells) (L : Lies (Vin vs) f cells) : Ly (argStore ws) f a :=
  ⟨cells, (V.mono hs).vw G, L.mono fun _ _ x => (x.mono hs).vw G⟩
/-- A world for the witness: the tables and the errors hold what their initialisers lay. -/
noncomputable def lowB : Nat := (World.holding Tryd.prog default ⟨#[], #[], []⟩).heap.size
abbrev textRange : ByteArray := ⟨#[118, 97, 108, 117, 101, 32, 111, 117, 116, 32, 111, 102, 32, 114, 97, 110, 103, 101]⟩
abbrev textSyntax : ByteArray := ⟨#[105, 110, 118, 97, 108, 105, 100, 32, 115, 121, 110, 116, 97, 120]⟩
noncomputable def laidW (os : Os) : World :=
  let w0 := World.holding Tryd.prog os ⟨#[.cells #[.string textRange] 155, .cells #[.string textSyntax] 155], #[], []⟩
  { w0 with heap := ((putTab w0.heap [(4, Rows.laid_math_bits_deBruijn32tab), (5, Rows.laid_math_bits_deBruijn64tab), (2, Rows.laid_internal_strconv_uint64pow10)]).modify 1 fun
      | .cells _ t frozen => .cells #[.iface 153 (.pointer (some ⟨lowB, 0, none⟩))] t frozen
      | o => o).modify 0 fun
      | .cells _ t frozen => .cells #[.iface 153 (.pointer (some ⟨lowB + 1, 0, none⟩))] t frozen
      | o => o }
theorem laid_met {args : Array Value} (os : Os) : laidMet Tryd.prog Rows.actionSameRow.laid ((laidW os).forCall (fun _ _ => 0) ⟨#[], args, []⟩).memory :=
  laidMet_of_run' 8 (by kernel_rfl) (by kernel_rfl)
/-- The powers of ten, as the row lists them. -/
theorem pow_good {W : World} {rest : List (String × DataW Unit)} (h : laidMet Tryd.prog (("internal/strconv.uint64pow10", Rows.laid_internal_strconv_uint64pow10) :: rest) W) : GoodV W [(some ⟨2, 0, none⟩, pow10)] := by
  have ht : Lib.TabIs Tryd.prog W "internal/strconv.uint64pow10" .u64 [1, 10, 100, 1000, 10000, 100000, 1000000, 10000000, 100000000, 1000000000, 10000000000, 100000000000, 1000000000000, 10000000000000, 100000000000000, 1000000000000000, 10000000000000000, 100000000000000000, 1000000000000000000, 10000000000000000000] :=
    Lib.tabIs_of_head (g := 2) (t := 157) (e := 137) (n := 20) (by kernel_rfl) (by kernel_rfl) (by kernel_rfl) (by kernel_rfl) (by kernel_rfl) (by kernel_rfl) h
  have hg : Tryd.prog.globalNamed "internal/strconv.uint64pow10" = some 2 := by kernel_rfl
  intro a l hm
  simp at hm
  obtain ⟨rfl, rfl⟩ := hm
  refine ⟨2, 0, rfl, ?_, fun j hj => ?_⟩
  · have := cell_block (ht.cell hg 0 (by simp))
    simp only at this
    omega
  · have hc := ht.cell hg j (by simpa using hj)
    rw [Nat.zero_add]
    have := mir_rd hc (.int _ _)
    rw [this]
    have e : ∀ k : Fin 20, pow10[k.1]? = some (.int .u64 ([1, 10, 100, 1000, 10000, 100000, 1000000, 10000000, 100000000, 1000000000, 10000000000, 100000000000, 1000000000000, 10000000000000, 100000000000000, 1000000000000000, 10000000000000000, 100000000000000000, 1000000000000000000, 10000000000000000000].getD k.1 0)) := by
      intro k
      match k with
      | ⟨0, _⟩ | ⟨1, _⟩ | ⟨2, _⟩ | ⟨3, _⟩ | ⟨4, _⟩ | ⟨5, _⟩ | ⟨6, _⟩ | ⟨7, _⟩ | ⟨8, _⟩ | ⟨9, _⟩ | ⟨10, _⟩ | ⟨11, _⟩ | ⟨12, _⟩ | ⟨13, _⟩ | ⟨14, _⟩ | ⟨15, _⟩ | ⟨16, _⟩ | ⟨17, _⟩ | ⟨18, _⟩ | ⟨19, _⟩ => rfl
      | ⟨k + 20, hk⟩ => exact absurd hk (by omega)
    rw [e ⟨j, by simpa using hj⟩]
    rfl
end Go.Proofs.YtgdkekdedgkglaaDoor
end
