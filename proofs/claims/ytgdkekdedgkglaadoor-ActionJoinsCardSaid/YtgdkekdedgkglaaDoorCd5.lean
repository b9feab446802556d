/- A deterministic heap for the model, proved sound, and walks of the program over it: part 10. No condition. -/
import Derived.Test.YtgdkekdedgkglaaDoorAb1
import Derived.Test.YtgdkekdedgkglaaDoorAb2
import Derived.Test.YtgdkekdedgkglaaDoorAb3
import Derived.Test.YtgdkekdedgkglaaDoorAb4
import Derived.Test.YtgdkekdedgkglaaDoorCd2
import Derived.Test.YtgdkekdedgkglaaDoorCd3
import Derived.Test.YtgdkekdedgkglaaDoorCd4
import Derived.Test.YtgdkekdedgkglaaDoorAb5
import Derived.Test.YtgdkekdedgkglaaDoorCd1
set_option linter.unusedVariables false
set_option linter.unusedSimpArgs false
set_option linter.unusedSectionVars false
section
/- Lines of words as statements: made, and as said. -/
namespace Go.Proofs.YtgdkekdedgkglaaDoor
open Go.Abs Go.Abs.Fo
set_option maxRecDepth 100000
attribute [local irreducible] unitAt EvQ
variable {h : AW} {μ : Paint} {ρ : Store} {Q : Value → AW → Prop}

/-- What a reading of lines comes to. -/
def NewP (Q : Value → AW → Prop) (ρ : Store) (p : F × Int × Int) : Prop :=
  ∀ h' μ' ρ' co cm oa oc cells vs, Own h' μ' ρ' → Pcs ρ ρ' [co, cm] [.sl oa oc 4 cells, .many vs] → ρ co = none → ρ cm = none → Lies (Vm vs) p.1 cells →
    Q (.tuple ⟨[.slice oa p.1.len oc, .agg ⟨[.int .i64 p.2.1, .int .i64 p.2.2]⟩]⟩) h'
theorem NewP.nil {p : F × Int × Int} (hq : NewP Q ρ p) (e : p.1 = .nil) {h' : AW} {μ' : Paint} {ρ' : Store} (O : Own h' μ' ρ') (F : Fra [] ρ ρ') : Q (.tuple ⟨[.slice Option.none 0 0, .agg ⟨[.int .i64 p.2.1, .int .i64 p.2.2]⟩]⟩) h' := by
  obtain ⟨ρ1, c1, O1, W1, hc1⟩ := w_many O (Pcs.none F)
  obtain ⟨ρ2, c2, O2, W2, hc2⟩ := w_nil O1 W1 4
  have := hq h' μ' ρ2 c2 c1 Option.none 0 [] [] O2 W2 hc2 hc1 (by rw [e]; rfl)
  rw [e] at this
  exact this
theorem parse_ok {G : Str → Prop} (O : Own h μ ρ) (T : Tbs G ρ) {ps : List Wds} {a : Option Addr} {cap : Nat} (X : Lns ρ ps a) (M : Mild (ps.map Wds.x)) (hG : ∀ p, p ∈ ps → ∀ w s, p.x = [w, s] → opOf w = 10 → G s) (hq : NewP Q ρ (parseM (ps.map Wds.x))) : EvQ P f_action_Parse [.slice a ps.length cap] h Q := by
  refine r_action_Parse ?_
  obtain ⟨μ1, ρ1, c1, O1, W1, hc1⟩ := w_new O p00 [.slice a ps.length cap]
  obtain ⟨μ2, ρ2, c2, O2, W2, hc2⟩ := w_new O1 W1 [.int .i64 0, .int .i64 0]
  obtain ⟨μ3, ρ3, c3, O3, W3, hc3⟩ := w_new O2 W2 [.int .i64 0]
  have W3 := W3.swap2
  obtain ⟨μ4, ρ4, c4, O4, W4, hc4⟩ := w_new O3 W3 [.int .i64 0]
  have W4 := W4.swap2
  refine w_wr O4 W4 2 (j := 0) rfl (Nat.le_of_ble_eq_true rfl) rfl fun h5 ρ5 O5 W5 => ?_
  refine w_wr O5 W5 1 (j := 0) rfl (Nat.le_of_ble_eq_true rfl) rfl fun h6 ρ6 O6 W6 => ?_
  obtain ⟨μ7, ρ7, c7, O7, W7, hc7⟩ := w_new O6 W6 [.int .i64 0, .int .i64 0]
  have W7 := W7.swap2
  obtain ⟨μ8, ρ8, c8, O8, W8, hc8⟩ := w_new O7 W7 [.nilFunc]
  have W8 := W8.swap2
  refine w_wr O8 W8 1 (j := 0) rfl (Nat.le_of_ble_eq_true rfl) rfl fun h9 ρ9 O9 W9 => ?_
  obtain ⟨μ10, ρ10, c10, O10, W10, hc10⟩ := w_new O9 W9 [.nilFunc]
  have W10 := W10.swap2
  refine w_wr O10 W10 1 (j := 0) rfl (Nat.le_of_ble_eq_true rfl) rfl fun h11 ρ11 O11 W11 => ?_
  refine w_rd O11 W11 1 (j := 0) rfl rfl ?_
  simp only [oB_some, bC_true, bC_false, vInt_int, vBool_bool, vStr_string, vPtr_pointer, vSl_slice, vMap_map, vFun_func, vAgg_agg, vTup_tuple, vIfc_nil, vIfc_iface, lC_cons, lN_nil, aP_some, shO_none, shO_some, Option.isNone_none, Option.isNone_some, Bool.not_true, Bool.not_false]
  obtain ⟨ρ12, cm, O12, W12, hcm⟩ := w_many O11 W11
  have W12 := W12.swap2
  refine r_action_Parse_fn2 ?_
  obtain ⟨ρ13, co, O13, W13, hco⟩ := w_nil O12 W12.self.tail' 4
  have fr : ∀ c, c ∈ [c2, cm, c10, c8, c7, c4, c3, c1] → ρ c = none := fun c hc => by
    simp only [List.mem_cons, List.not_mem_nil, or_false] at hc
    rcases hc with rfl | rfl | rfl | rfl | rfl | rfl | rfl | rfl <;> assumption
  have F12 : Fra [] ρ ρ12 := W12.fra0 fr
  refine body_loop (cm := cm) (ns := [c10, c8, c7, c4, c3, c1]) T X M hG (fun c hc => fr c (List.mem_cons_of_mem _ hc)) ((ps.map Wds.x).length + 1) 0 (ps.map Wds.x) ps0 (facc := .nil) O13 W13 hco F12 rfl (by simp [ps0]) (by omega) (Nat.le_refl _) (by omega) (Nat.zero_le _) rfl
    fun h14 μ14 ρ14 co' oa oc cells vs O14 W14 hco' L14 _ => ?_
  have W15 := W12.call1 (fs := [c2]) (ms := [cm, c10, c8, c7, c4, c3, c1]) (xs := [_]) rfl W14 hco'
  have hco1 : ρ co' = none := F12.none0 hco'
  have L14 : Lies (Vm vs) (bd ((ps.map Wds.x).length + 1) 0 (ps.map Wds.x) ps0).1 cells := L14
  have hp : parseM (ps.map Wds.x) = (if (bd ((ps.map Wds.x).length + 1) 0 (ps.map Wds.x) ps0).2.2.err ≠ 0 then (.nil, (bd ((ps.map Wds.x).length + 1) 0 (ps.map Wds.x) ps0).2.2.err, (bd ((ps.map Wds.x).length + 1) 0 (ps.map Wds.x) ps0).2.2.bad) else ((bd ((ps.map Wds.x).length + 1) 0 (ps.map Wds.x) ps0).1, 0, 0)) := rfl
  rw [hp] at hq
  generalize bd ((ps.map Wds.x).length + 1) 0 (ps.map Wds.x) ps0 = q at W15 L14 hq ⊢
  simp only [oB_some, bC_true, bC_false, vInt_int, vBool_bool, vStr_string, vPtr_pointer, vSl_slice, vMap_map, vFun_func, vAgg_agg, vTup_tuple, vIfc_nil, vIfc_iface, lC_cons, lN_nil, aP_some, shO_none, shO_some, Option.isNone_none, Option.isNone_some, Bool.not_true, Bool.not_false]
  refine w_rd O14 W15 5 (j := 0) rfl rfl ?_
  simp only [oB_some, bC_true, bC_false, vInt_int, vBool_bool, vStr_string, vPtr_pointer, vSl_slice, vMap_map, vFun_func, vAgg_agg, vTup_tuple, vIfc_nil, vIfc_iface, lC_cons, lN_nil, aP_some, shO_none, shO_some, Option.isNone_none, Option.isNone_some, Bool.not_true, Bool.not_false]
  have fr2 : ∀ c, c ∈ [co', c2, cm, c10, c8, c7, c4, c3, c1] → ρ c = none := fun c hc => by
    rcases List.mem_cons.1 hc with rfl | hc
    · exact hco1
    · exact fr c hc
  refine bC_iff (fun e => ?_) (fun e => ?_)
  · have e : q.2.2.err ≠ 0 := by simpa using e
    rw [if_pos e] at hq
    repeat (first | refine ⟨rfl, ?_⟩ | refine ⟨trivial, ?_⟩ | simp only [oB_some, bC_true, bC_false, vInt_int, vBool_bool, vStr_string, vPtr_pointer, vSl_slice, vMap_map, vFun_func, vAgg_agg, vTup_tuple, vIfc_nil, vIfc_iface, lC_cons, lN_nil, aP_some, shO_none, shO_some, Option.isNone_none, Option.isNone_some, Bool.not_true, Bool.not_false] | refine w_rd (by assumption) (by assumption) 0 (by rfl) (by rfl) ?_ | refine w_rd (by assumption) (by assumption) 1 (by rfl) (by rfl) ?_ | refine w_rd (by assumption) (by assumption) 2 (by rfl) (by rfl) ?_ | refine w_rd (by assumption) (by assumption) 3 (by rfl) (by rfl) ?_ | refine w_rd (by assumption) (by assumption) 4 (by rfl) (by rfl) ?_ | refine w_rd (by assumption) (by assumption) 5 (by rfl) (by rfl) ?_ | refine w_rd (by assumption) (by assumption) 6 (by rfl) (by rfl) ?_ | refine w_rd (by assumption) (by assumption) 7 (by rfl) (by rfl) ?_ | refine w_rd (by assumption) (by assumption) 8 (by rfl) (by rfl) ?_ | refine w_wrL (by assumption) (by assumption) 0 (by rfl) (Nat.le_of_ble_eq_true (by rfl)) (by rfl) fun h ρz O W => ?_ | refine w_wrL (by assumption) (by assumption) 1 (by rfl) (Nat.le_of_ble_eq_true (by rfl)) (by rfl) fun h ρz O W => ?_ | refine w_wrL (by assumption) (by assumption) 2 (by rfl) (Nat.le_of_ble_eq_true (by rfl)) (by rfl) fun h ρz O W => ?_ | refine w_wrL (by assumption) (by assumption) 3 (by rfl) (Nat.le_of_ble_eq_true (by rfl)) (by rfl) fun h ρz O W => ?_ | refine w_wrL (by assumption) (by assumption) 4 (by rfl) (Nat.le_of_ble_eq_true (by rfl)) (by rfl) fun h ρz O W => ?_ | refine w_wrL (by assumption) (by assumption) 5 (by rfl) (Nat.le_of_ble_eq_true (by rfl)) (by rfl) fun h ρz O W => ?_ | refine w_wrL (by assumption) (by assumption) 6 (by rfl) (Nat.le_of_ble_eq_true (by rfl)) (by rfl) fun h ρz O W => ?_ | refine w_wrL (by assumption) (by assumption) 7 (by rfl) (Nat.le_of_ble_eq_true (by rfl)) (by rfl) fun h ρz O W => ?_ | refine w_wrL (by assumption) (by assumption) 8 (by rfl) (Nat.le_of_ble_eq_true (by rfl)) (by rfl) fun h ρz O W => ?_ | refine w_wr (by assumption) (by assumption) 0 (by rfl) (Nat.le_of_ble_eq_true (by rfl)) (by rfl) fun h ρz O W => ?_ | refine w_wr (by assumption) (by assumption) 1 (by rfl) (Nat.le_of_ble_eq_true (by rfl)) (by rfl) fun h ρz O W => ?_ | refine w_wr (by assumption) (by assumption) 2 (by rfl) (Nat.le_of_ble_eq_true (by rfl)) (by rfl) fun h ρz O W => ?_ | refine w_wr (by assumption) (by assumption) 3 (by rfl) (Nat.le_of_ble_eq_true (by rfl)) (by rfl) fun h ρz O W => ?_ | refine w_wr (by assumption) (by assumption) 4 (by rfl) (Nat.le_of_ble_eq_true (by rfl)) (by rfl) fun h ρz O W => ?_ | refine w_wr (by assumption) (by assumption) 5 (by rfl) (Nat.le_of_ble_eq_true (by rfl)) (by rfl) fun h ρz O W => ?_ | refine w_wr (by assumption) (by assumption) 6 (by rfl) (Nat.le_of_ble_eq_true (by rfl)) (by rfl) fun h ρz O W => ?_ | refine w_wr (by assumption) (by assumption) 7 (by rfl) (Nat.le_of_ble_eq_true (by rfl)) (by rfl) fun h ρz O W => ?_ | refine w_wr (by assumption) (by assumption) 8 (by rfl) (Nat.le_of_ble_eq_true (by rfl)) (by rfl) fun h ρz O W => ?_)
    exact hq.nil rfl (by assumption) (Pcs.fra0 (by assumption) fr2)
  · have e : q.2.2.err = 0 := by simpa using e
    rw [if_neg (fun h => h e)] at hq
    refine w_wrL O14 W15 1 (j := 0) rfl (Nat.le_of_ble_eq_true rfl) rfl fun h16 ρ16 O16 W16 => ?_
    repeat (first | refine ⟨rfl, ?_⟩ | refine ⟨trivial, ?_⟩ | simp only [oB_some, bC_true, bC_false, vInt_int, vBool_bool, vStr_string, vPtr_pointer, vSl_slice, vMap_map, vFun_func, vAgg_agg, vTup_tuple, vIfc_nil, vIfc_iface, lC_cons, lN_nil, aP_some, shO_none, shO_some, Option.isNone_none, Option.isNone_some, Bool.not_true, Bool.not_false] | refine w_rd (by assumption) (by assumption) 0 (by rfl) (by rfl) ?_ | refine w_rd (by assumption) (by assumption) 1 (by rfl) (by rfl) ?_ | refine w_wrL (by assumption) (by assumption) 0 (by rfl) (Nat.le_of_ble_eq_true (by rfl)) (by rfl) fun h ρz O W => ?_ | refine w_wrL (by assumption) (by assumption) 1 (by rfl) (Nat.le_of_ble_eq_true (by rfl)) (by rfl) fun h ρz O W => ?_ | refine w_wr (by assumption) (by assumption) 0 (by rfl) (Nat.le_of_ble_eq_true (by rfl)) (by rfl) fun h ρz O W => ?_ | refine w_wr (by assumption) (by assumption) 1 (by rfl) (Nat.le_of_ble_eq_true (by rfl)) (by rfl) fun h ρz O W => ?_)
    have hne : co' ≠ cm := by
      have := W16.nodup
      simp at this
      exact this.1.2.1
    exact hq _ _ _ co' cm oa oc cells vs O16 (Pcs.mk2 (W16.at_ 0 _ _ rfl rfl) (W16.at_ 2 _ _ rfl rfl) hne (W16.fra0 fr2)) hco1 hcm L14
theorem rparse_ok (O : Own h μ ρ) {ps : List Wds} {a : Option Addr} {cap : Nat} (X : Lns ρ ps a) (M : Mild (ps.map Wds.x)) (hq : NewP Q ρ (parseM (ps.map Wds.x))) : EvQ P f_brickyardref13_Parse [.slice a ps.length cap] h Q := by
  refine r_brickyardref13_Parse ?_
  obtain ⟨μ1, ρ1, c1, O1, W1, hc1⟩ := w_new O p00 [.int .i64 0, .int .i64 0]
  have F1 : Fra [] ρ ρ1 := W1.fra0 fun c hc => by simp at hc; rw [hc]; exact hc1
  refine r_brickyardref13_Check ?_
  obtain ⟨μ2, ρ2, c2, O2, W2, hc2⟩ := w_new O1 p00 [.int .i64 0, .int .i64 0]
  refine rcheck_loop (X.keep F1) M _ 0 0 0 rfl (by omega) (by omega) (by omega) O2 W2 hc2 fun h3 μ3 ρ3 O3 F3 => ?_
  have W3 := W1.keep0 F3
  rw [List.drop_zero]
  simp only [oB_some, bC_true, bC_false, vInt_int, vBool_bool, vStr_string, vPtr_pointer, vSl_slice, vMap_map, vFun_func, vAgg_agg, vTup_tuple, vIfc_nil, vIfc_iface, lC_cons, lN_nil, aP_some, shO_none, shO_some, Option.isNone_none, Option.isNone_some, Bool.not_true, Bool.not_false]
  refine w_copy O3 W3 rfl rfl rfl fun h4 μ4 ρ4 c4 O4 W4 hc4 => ?_
  have fr : ∀ c, c ∈ [c4, c1] → ρ c = none := fun c hc => by simp at hc; rcases hc with rfl | rfl <;> assumption
  have key := bd_chk ((ps.map Wds.x).length + 1) 0 (ps.map Wds.x) ps0 (by omega) rfl (by omega)
  have hp : parseM (ps.map Wds.x) = (if (bd ((ps.map Wds.x).length + 1) 0 (ps.map Wds.x) ps0).2.2.err ≠ 0 then (.nil, (bd ((ps.map Wds.x).length + 1) 0 (ps.map Wds.x) ps0).2.2.err, (bd ((ps.map Wds.x).length + 1) 0 (ps.map Wds.x) ps0).2.2.bad) else ((bd ((ps.map Wds.x).length + 1) 0 (ps.map Wds.x) ps0).1, 0, 0)) := rfl
  rw [hp] at hq
  refine w_rd O4 W4 0 (j := 0) rfl rfl ?_
  simp only [oB_some, bC_true, bC_false, vInt_int, vBool_bool, vStr_string, vPtr_pointer, vSl_slice, vMap_map, vFun_func, vAgg_agg, vTup_tuple, vIfc_nil, vIfc_iface, lC_cons, lN_nil, aP_some, shO_none, shO_some, Option.isNone_none, Option.isNone_some, Bool.not_true, Bool.not_false]
  refine bC_iff (fun e => ?_) (fun e => ?_)
  · have e : (chk (ps.map Wds.x) 0 0 0).1 ≠ 0 := by simpa using e
    rcases key with ⟨k1, k2⟩ | ⟨k1, _, k2, _⟩
    · have k2 : chk (ps.map Wds.x) 0 0 0 = _ := k2
      rw [if_pos k1] at hq
      rw [k2] at W4
      repeat (first | refine ⟨rfl, ?_⟩ | refine ⟨trivial, ?_⟩ | simp only [oB_some, bC_true, bC_false, vInt_int, vBool_bool, vStr_string, vPtr_pointer, vSl_slice, vMap_map, vFun_func, vAgg_agg, vTup_tuple, vIfc_nil, vIfc_iface, lC_cons, lN_nil, aP_some, shO_none, shO_some, Option.isNone_none, Option.isNone_some, Bool.not_true, Bool.not_false] | refine w_rd (by assumption) (by assumption) 0 (by rfl) (by rfl) ?_ | refine w_rd (by assumption) (by assumption) 1 (by rfl) (by rfl) ?_ | refine w_wrL (by assumption) (by assumption) 0 (by rfl) (Nat.le_of_ble_eq_true (by rfl)) (by rfl) fun h ρz O W => ?_ | refine w_wrL (by assumption) (by assumption) 1 (by rfl) (Nat.le_of_ble_eq_true (by rfl)) (by rfl) fun h ρz O W => ?_ | refine w_wr (by assumption) (by assumption) 0 (by rfl) (Nat.le_of_ble_eq_true (by rfl)) (by rfl) fun h ρz O W => ?_ | refine w_wr (by assumption) (by assumption) 1 (by rfl) (Nat.le_of_ble_eq_true (by rfl)) (by rfl) fun h ρz O W => ?_)
      exact hq.nil rfl (by assumption) (Pcs.fra0 (by assumption) fr)
    · have k2 : chk (ps.map Wds.x) 0 0 0 = (0, 0) := (k2 rfl).2.1
      rw [k2] at e; exact absurd rfl e
  · have e : (chk (ps.map Wds.x) 0 0 0).1 = 0 := by simpa using e
    rcases key with ⟨k1, k2⟩ | ⟨k1, _, k2, _⟩
    · have k2 : chk (ps.map Wds.x) 0 0 0 = _ := k2
      rw [k2] at e; exact absurd e k1
    have k2 : chk (ps.map Wds.x) 0 0 0 = (0, 0) := (k2 rfl).2.1
    rw [if_neg (fun h => h k1)] at hq
    rw [k2] at W4
    refine r_brickyardref13_Until ?_
    obtain ⟨ρ5, cm, O5, W5, hcm⟩ := w_many O4 W4
    have fr5 : ∀ c, c ∈ [cm, c4, c1] → ρ c = none := fun c hc => by simp at hc; rcases hc with rfl | rfl | rfl <;> assumption
    obtain ⟨ρ6, co, O6, W6, hco⟩ := w_nil O5 (Pcs.one (W5.at_ 0 _ _ rfl rfl)) 4
    have F5 := W5.fra0 fr5
    have W5r := W5.rot
    refine until_loop X M hcm ((ps.map Wds.x).length + 1) 0 (ps.map Wds.x) ps0 (facc := .nil) O6 W6 hco F5 rfl (by simp [ps0]) (by omega) rfl k1 (Nat.zero_le _) rfl fun h7 μ7 ρ7 co' oa oc cells vs ee O7 W7 hco' L7 _ _ => ?_
    have W8 := W5r.call1 (fs := [c4, c1]) (ms := [cm]) (xs := [_, _]) rfl W7 hco'
    have hco1 : ρ co' = none := F5.none0 hco'
    have L7 : Lies (Vm vs) (bd ((ps.map Wds.x).length + 1) 0 (ps.map Wds.x) ps0).1 cells := L7
    generalize bd ((ps.map Wds.x).length + 1) 0 (ps.map Wds.x) ps0 = q at L7 hq ⊢
    repeat (first | refine ⟨rfl, ?_⟩ | refine ⟨trivial, ?_⟩ | simp only [oB_some, bC_true, bC_false, vInt_int, vBool_bool, vStr_string, vPtr_pointer, vSl_slice, vMap_map, vFun_func, vAgg_agg, vTup_tuple, vIfc_nil, vIfc_iface, lC_cons, lN_nil, aP_some, shO_none, shO_some, Option.isNone_none, Option.isNone_some, Bool.not_true, Bool.not_false] | refine w_rd (by assumption) (by assumption) 0 (by rfl) (by rfl) ?_ | refine w_rd (by assumption) (by assumption) 1 (by rfl) (by rfl) ?_ | refine w_rd (by assumption) (by assumption) 2 (by rfl) (by rfl) ?_ | refine w_wrL (by assumption) (by assumption) 0 (by rfl) (Nat.le_of_ble_eq_true (by rfl)) (by rfl) fun h ρz O W => ?_ | refine w_wrL (by assumption) (by assumption) 1 (by rfl) (Nat.le_of_ble_eq_true (by rfl)) (by rfl) fun h ρz O W => ?_ | refine w_wrL (by assumption) (by assumption) 2 (by rfl) (Nat.le_of_ble_eq_true (by rfl)) (by rfl) fun h ρz O W => ?_ | refine w_wr (by assumption) (by assumption) 0 (by rfl) (Nat.le_of_ble_eq_true (by rfl)) (by rfl) fun h ρz O W => ?_ | refine w_wr (by assumption) (by assumption) 1 (by rfl) (Nat.le_of_ble_eq_true (by rfl)) (by rfl) fun h ρz O W => ?_ | refine w_wr (by assumption) (by assumption) 2 (by rfl) (Nat.le_of_ble_eq_true (by rfl)) (by rfl) fun h ρz O W => ?_)
    have hne : co' ≠ cm := by
      have := W8.nodup
      simp at this
      exact this.1.2.2
    have fr6 : ∀ c, c ∈ [co', c4, c1, cm] → ρ c = none := fun c hc => by simp at hc; rcases hc with rfl | rfl | rfl | rfl <;> assumption
    exact hq _ _ _ co' cm oa oc cells vs (by assumption) (Pcs.mk2 (Pcs.at_ (by assumption) 0 _ _ rfl rfl) (Pcs.at_ (by assumption) 3 _ _ rfl rfl) hne (Pcs.fra0 (by assumption) fr6)) hco1 hcm L7
end Go.Proofs.YtgdkekdedgkglaaDoor
end

section
/- Lines of words built piece by piece. -/
namespace Go.Proofs.YtgdkekdedgkglaaDoor
open Go.Abs Go.Abs.Fo
set_option maxRecDepth 100000
attribute [local irreducible] unitAt EvQ
variable {h : AW} {μ : Paint} {ρ : Store} {Q : Value → AW → Prop}
/-- Lines whose words lie among many. -/
def Built (vs : List (Option Addr × Nat × Nat × List Value)) (ps : List Wds) : Prop := ∀ p, p ∈ ps → Vm vs p.a (strs p.x) ∧ p.x.length ≤ p.cap
theorem Built.lns {vs : List (Option Addr × Nat × Nat × List Value)} {ps : List Wds} (B : Built vs ps) (O : Own h μ ρ) {co cm : Nat} {oa : Option Addr} {oc : Nat} (h1 : ρ co = some (.sl oa oc 1 (ps.map Wds.cell))) (h2 : ρ cm = some (.many vs)) : Lns ρ ps oa :=
  ⟨.inr (Rd.of_sl O (by simp) h1), fun p hp => (B p hp).1.read O h2, fun p hp => (B p hp).2⟩
theorem Built.nil {vs : List (Option Addr × Nat × Nat × List Value)} : Built vs [] := fun p hp => by simp at hp
theorem Built.more {vs ws : List (Option Addr × Nat × Nat × List Value)} {ps : List Wds} (B : Built vs ps) (hs : ∀ x, x ∈ vs → x ∈ ws) : Built ws ps := fun p hp => ⟨(B p hp).1.more hs, (B p hp).2⟩
theorem Built.app {vs : List (Option Addr × Nat × Nat × List Value)} {ps qs : List Wds} (B : Built vs ps) (C : Built vs qs) : Built vs (ps ++ qs) := fun p hp => by
  rcases List.mem_append.1 hp with x | x
  · exact B p x
  · exact C p x
theorem Built.snoc {vs : List (Option Addr × Nat × Nat × List Value)} {ps : List Wds} (B : Built vs ps) {p : Wds} (hc : p.x.length ≤ p.cap) : Built ((p.a, p.cap, 1, strs p.x) :: vs) (ps ++ [p]) :=
  (B.more fun x hx => List.mem_cons_of_mem _ hx).app fun q hq => by
    simp at hq; subst hq
    exact ⟨.inr ⟨_, _, List.mem_cons_self⟩, hc⟩
theorem allOne_cells (ps : List Wds) : allOne (ps.map Wds.cell) = true := allOne_of fun v hv => by
  obtain ⟨p, _, rfl⟩ := List.mem_map.1 hv
  rfl
/-- A line joins the others. -/
theorem app_line (O : Own h μ ρ) {ρ1 : Store} {ns : List Nat} {rs : List Res} (W : Pcs ρ1 ρ ns rs) (i j : Nat) (hij : j ≠ i) {oa : Option Addr} {oc : Nat} {ps : List Wds} {vs : List (Option Addr × Nat × Nat × List Value)} (hi : rs[i]? = some (.sl oa oc 1 (ps.map Wds.cell))) (hj : rs[j]? = some (.many vs))
    (x : List Str) (hps : ps.length ≤ 1000000) {K : Value → AW → Prop}
    (H : ∀ h' μ' ρ' oa' oc' (p : Wds), p.x = x → p.cap = x.length → Own h' μ' ρ' → Pcs ρ1 ρ' ns ((rs.set j (.many ((p.a, p.cap, 1, strs p.x) :: vs))).set i (.sl oa' oc' 1 ((ps ++ [p]).map Wds.cell))) → K (.slice oa' (ps.length + 1) oc') h') :
    oP (appendB P (AW.addVar (AW.addVar h (strs x)) [.slice (some ⟨AW.next h, 0, none⟩) x.length x.length]) ⟨[ty_sl_sl_string, ty_sl_sl_string]⟩ [.slice oa ps.length oc, .slice (some ⟨AW.next (AW.addVar h (strs x)), 0, none⟩) 1 1]) K := by
  obtain ⟨μ1, ρ2, c1, O1, W1, hc1⟩ := w_block O W (strs x) (n := x.length) (sz := 1) (by simp) allOne_strs
  obtain ⟨μ2, ρ3, O2, W2⟩ := w_into O1 W1 hc1 j hj
  obtain ⟨μ3, ρ4, c2, O3, W3, hc2⟩ := w_block O2 W2 [.slice (some ⟨AW.next h, 0, none⟩) x.length x.length] (n := 1) (sz := 1) rfl rfl
  refine w_app (P := P) O3 W3 (i + 1) (n := ps.length) (m := 1) ti_ty_sl_sl_string ti_ty_sl_string (by decide) (by rw [List.getElem?_cons_succ, List.getElem?_set_ne hij]; exact hi) (by simp) (w_sl O3 W3 0 rfl) rfl rfl (by omega) (by omega) fun oa' oc' h2 μ4 ρ5 O4 W4 => ?_
  refine H _ _ _ oa' oc' ⟨some ⟨AW.next h, 0, none⟩, x.length, x⟩ rfl rfl O4 ?_
  have := W4.tail hc2
  rw [List.map_append]
  exact this
/-- Lines are read, and the spot is laid down. -/
theorem parse_spot {G : Str → Prop} (O : Own h μ ρ) (T : Tbs G ρ) {ps : List Wds} {a : Option Addr} {cap : Nat} (X : Lns ρ ps a) (M : Mild (ps.map Wds.x)) (hG : ∀ p, p ∈ ps → ∀ w s, p.x = [w, s] → opOf w = 10 → G s) {ρ1 : Store} {ns : List Nat} {rs : List Res} (W : Pcs ρ1 ρ ns rs)
    {K : Option Addr → Nat → Nat → AW → AW → Prop}
    (H : ∀ h11 h27 μ' ρ' c co cm oa oc cells vs, Own h27 μ' ρ' → Pcs ρ1 ρ' (c :: co :: cm :: ns) (.var (AW.next h11) [.int .i64 (parseM (ps.map Wds.x)).2.1, .int .i64 (parseM (ps.map Wds.x)).2.2] :: .sl oa oc 4 cells :: .many vs :: rs) → Fra [] ρ ρ' → ρ1 c = none → ρ1 co = none → ρ1 cm = none →
      Lies (Vm vs) (parseM (ps.map Wds.x)).1 cells → K oa (parseM (ps.map Wds.x)).1.len oc h11 h27) :
    EvQ P f_action_Parse [.slice a ps.length cap] h fun v10 h11 => vTup v10 fun l12 => lC l12 fun v13 l14 => vSl v13 fun p15 m16 m17 => lC l14 fun v18 l19 => vAgg v18 fun l20 => lC l20 fun v21 l22 => vInt .i64 v21 fun n23 => lC l22 fun v24 l25 => vInt .i64 v24 fun n26 => lN l25 (lN l19
      (oB (AW.wrL (AW.addVar h11 [.int .i64 0, .int .i64 0]) (AW.next h11) 0 [.int .i64 n23, .int .i64 n26]) fun h27 => K p15 m16 m17 h11 h27)) := by
  refine parse_ok O T X M hG fun h2 μ2 ρ2 co cm oa oc cells vs O2 W2 hco hcm L2 => ?_
  simp only [oB_some, bC_true, bC_false, vInt_int, vBool_bool, vStr_string, vPtr_pointer, vSl_slice, vMap_map, vFun_func, vAgg_agg, vTup_tuple, vIfc_nil, vIfc_iface, lC_cons, lN_nil, aP_some, shO_none, shO_some, Option.isNone_none, Option.isNone_some, Bool.not_true, Bool.not_false]
  have F2 : Fra [] ρ ρ2 := W2.fra0 fun c hc => by simp at hc; rcases hc with rfl | rfl <;> assumption
  have W3 := W.adopt2 W2 hco hcm
  refine w_copyF O2 W3 rfl rfl rfl fun h3 μ3 ρ3 c O3 W4 hc F3 => ?_
  exact H _ _ _ _ c co cm oa oc cells vs O3 W4 (F2.trans F3) hc (W.not0 hco) (W.not0 hcm) L2
end Go.Proofs.YtgdkekdedgkglaaDoor
end

section
/- Rules of walks, printed by a program of ours: group AStr. -/
namespace Go.Proofs.YtgdkekdedgkglaaDoor
open Go.Abs
set_option maxRecDepth 100000
attribute [local irreducible] kFn kUnit EvQ unitAt
theorem r_strconv_Atoi {s1 : ByteArray} {h : AW} {Q : Value → AW → Prop} (H : EvQ P f_strconv_Atoi_78 [Value.string s1] h fun v2 h3 => vTup v2 fun l4 => lC l4 fun v5 l6 => vInt IntKind.i64 v5 fun n7 =>
  lC l6 fun v8 l9 => vIfc v8 (lN l9 (Q (Value.tuple (Array.mk [Value.int IntKind.i64 n7, Value.nilIface])) h3)) fun m10 v11 => lN l9 (EvQ P f_strconv_toError [Value.string (ByteArray.mk #[65,
  116, 111, 105]), Value.string s1, Value.int IntKind.i64 0, Value.int IntKind.i64 0, Value.iface m10 v11] h3 fun v12 h13 => vIfc v12 (Q (Value.tuple (Array.mk [Value.int
  IntKind.i64 n7, Value.nilIface])) h13) fun m14 v15 => Q (Value.tuple (Array.mk [Value.int IntKind.i64 n7, Value.iface m14 v15])) h13)) : EvQ P f_strconv_Atoi [Value.string s1] h Q := fn_ok
  (n := 400) (ann := annOf []) (Eq.mp (by kernel_rfl) H)
theorem r_strconv_Itoa {n1 : Int} {h : AW} {Q : Value → AW → Prop} (H : EvQ P f_strconv_Itoa_85 [Value.int IntKind.i64 n1] h fun v2 h3 => vStr v2 fun s4 => Q (Value.string s4) h3) : EvQ P f_strconv_Itoa
  [Value.int IntKind.i64 n1] h Q := fn_ok (n := 400) (ann := annOf []) (Eq.mp (by kernel_rfl) H)
theorem r_p_strings_Builder_WriteByte {p1 : Option Addr} {n2 : Int} {h : AW} {Q : Value → AW → Prop} (H : EvQ P f_p_strings_Builder_copyCheck [Value.pointer p1] h fun v3 h4 => aP p1 fun m5 m6 => oB (AW.rd h4 m5 (m6 + 1)) fun v7
  => vSl v7 fun p8 m9 m10 => oP (appendB P (AW.addVar h4 [Value.int IntKind.u8 n2]) (Array.mk [ty_sl_uint8, ty_sl_uint8]) [Value.slice p8 m9 m10, Value.slice (some (Addr.mk (AW.next h4) 0
  none)) 1 1]) fun v11 h12 => vSl v11 fun p13 m14 m15 => aP p1 fun m16 m17 => oB (AW.wr h12 m16 (m17 + 1) (Value.slice p13 m14 m15)) fun h18 => Q Value.nilIface h18) : EvQ P f_p_strings_Builder_WriteByte
  [Value.pointer p1, Value.int IntKind.u8 n2] h Q := fn_ok (n := 400) (ann := annOf []) (Eq.mp (by kernel_rfl) H)
theorem r_p_strings_Builder_WriteString {p1 : Option Addr} {s2 : ByteArray} {h : AW} {Q : Value → AW → Prop} (H : EvQ P f_p_strings_Builder_copyCheck [Value.pointer p1] h fun v3 h4 => aP p1 fun m5 m6 => oB (AW.rd h4 m5 (m6 + 1))
  fun v7 => vSl v7 fun p8 m9 m10 => oP (appendB P h4 (Array.mk [ty_sl_uint8, ty_string]) [Value.slice p8 m9 m10, Value.string s2]) fun v11 h12 => vSl v11 fun p13 m14 m15 => aP p1 fun m16 m17
  => oB (AW.wr h12 m16 (m17 + 1) (Value.slice p13 m14 m15)) fun h18 => Q (Value.tuple (Array.mk [Value.int IntKind.i64 (↑(ByteArray.size s2) : Int), Value.nilIface])) h18) : EvQ P
  f_p_strings_Builder_WriteString [Value.pointer p1, Value.string s2] h Q := fn_ok (n := 400) (ann := annOf []) (Eq.mp (by kernel_rfl) H)
theorem r_p_strings_Builder_String {p1 : Option Addr} {h : AW} {Q : Value → AW → Prop} (H : aP p1 fun m2 m3 => oB (AW.rd h m2 (m3 + 1)) fun v4 => vSl v4 fun p5 m6 m7 => False) : EvQ P f_p_strings_Builder_String
  [Value.pointer p1] h Q := fn_ok (n := 400) (ann := annOf []) (Eq.mp (by kernel_rfl) H)
theorem r_strconv_Atoi_78 {s1 : ByteArray} {h : AW} {Q : Value → AW → Prop} (H : bC (decide (0 < (↑(ByteArray.size s1) : Int))) (bC (decide ((↑(ByteArray.size s1) : Int) < 19)) (oB (natIdx 0
  (ByteArray.size s1)) fun m2 => oB (bAt s1 m2) fun n3 => bC (n3 == 45) (oB (natBnd 1 (ByteArray.size s1)) fun m4 => bC (decide ((↑(ByteArray.size (bSub s1 m4 (ByteArray.size s1)))
  : Int) < 1)) (Q (Value.tuple (Array.mk [Value.int IntKind.i64 0, Value.iface ty_strconv_Error (Value.int IntKind.i64 2)])) h) (unitAt P f_strconv_Atoi_78 8 [0, 5] [Value.string (bSub s1 m4
  (ByteArray.size s1)), Value.string s1] h Q)) (oB (natIdx 0 (ByteArray.size s1)) fun m5 => oB (bAt s1 m5) fun n6 => bC (n6 == 43) (oB (natBnd 1 (ByteArray.size s1)) fun m7 => bC
  (decide ((↑(ByteArray.size (bSub s1 m7 (ByteArray.size s1))) : Int) < 1)) (Q (Value.tuple (Array.mk [Value.int IntKind.i64 0, Value.iface ty_strconv_Error (Value.int IntKind.i64 2)])) h)
  (unitAt P f_strconv_Atoi_78 8 [0, 5] [Value.string (bSub s1 m7 (ByteArray.size s1)), Value.string s1] h Q)) (unitAt P f_strconv_Atoi_78 8 [0, 5] [Value.string s1, Value.string s1] h Q))) (EvQ P f_strconv_ParseInt
  [Value.string s1, Value.int IntKind.i64 10, Value.int IntKind.i64 0] h fun v8 h9 => vTup v8 fun l10 => lC l10 fun v11 l12 => vInt IntKind.i64 v11 fun n13 => lC l12 fun v14 l15 =>
  vIfc v14 (lN l15 (Q (Value.tuple (Array.mk [Value.int IntKind.i64 n13, Value.nilIface])) h9)) fun m16 v17 => lN l15 (Q (Value.tuple (Array.mk [Value.int IntKind.i64 n13,
  Value.iface m16 v17])) h9))) (EvQ P f_strconv_ParseInt [Value.string s1, Value.int IntKind.i64 10, Value.int IntKind.i64 0] h fun v18 h19 => vTup v18 fun l20 => lC l20 fun v21 l22 => vInt
  IntKind.i64 v21 fun n23 => lC l22 fun v24 l25 => vIfc v24 (lN l25 (Q (Value.tuple (Array.mk [Value.int IntKind.i64 n23, Value.nilIface])) h19)) fun m26 v27 => lN l25 (Q
  (Value.tuple (Array.mk [Value.int IntKind.i64 n23, Value.iface m26 v27])) h19))) : EvQ P f_strconv_Atoi_78 [Value.string s1] h Q := fn_ok (n := 400) (ann := annOf [(8, [0, 5]), (10, [5, 6,
  47, 48, 49])]) (Eq.mp (by kernel_rfl) H)
theorem r_strconv_Atoi_78_8 {s1 : ByteArray} {s2 : ByteArray} {h : AW} {Q : Value → AW → Prop} (H : oP (convA P h ty_string ty_sl_uint8 (Value.string s1)) fun v3 h4 => vSl v3 fun p5 m6 m7 => unitAt P
  f_strconv_Atoi_78 10 [5, 6, 47, 48, 49] [Value.string s2, Value.int IntKind.i64 0, Value.slice p5 m6 m7, Value.int IntKind.i64 (↑m6 : Int), Value.int IntKind.i64 0] h4 Q) : unitAt P f_strconv_Atoi_78 8
  [0, 5] [Value.string s1, Value.string s2] h Q := unit_ok (n := 400) (ann := annOf [(8, [0, 5]), (10, [5, 6, 47, 48, 49])]) (Eq.mp (by kernel_rfl) H)
theorem r_strconv_Atoi_78_10 {s1 : ByteArray} {n2 : Int} {p3 : Option Addr} {m4 : Nat} {m5 : Nat} {n6 : Int} {n7 : Int} {h : AW} {Q : Value → AW → Prop} (H : bC (decide (n7 < n6)) (aP p3 fun
  m8 m9 => oB (natIdx n7 m4) fun m10 => oB (AW.rd h m8 (m9 + m10 * 1)) fun v11 => vInt IntKind.u8 v11 fun n12 => bC (decide (IntKind.wrap IntKind.u8 (n12 - 48) > 9)) (Q
  (Value.tuple (Array.mk [Value.int IntKind.i64 0, Value.iface ty_strconv_Error (Value.int IntKind.i64 2)])) h) (unitAt P f_strconv_Atoi_78 10 [5, 6, 47, 48, 49] [Value.string s1, Value.int IntKind.i64
  (IntKind.wrap IntKind.i64 (IntKind.wrap IntKind.i64 (n2 * 10) + IntKind.wrap IntKind.i64 (IntKind.wrap IntKind.u8 (n12 - 48)))), Value.slice p3 m4 m5, Value.int IntKind.i64 n6,
  Value.int IntKind.i64 (IntKind.wrap IntKind.i64 (n7 + 1))] h Q)) (oB (natIdx 0 (ByteArray.size s1)) fun m13 => oB (bAt s1 m13) fun n14 => bC (n14 == 45) (Q (Value.tuple (Array.mk
  [Value.int IntKind.i64 (IntKind.wrap IntKind.i64 (0 - n2)), Value.nilIface])) h) (Q (Value.tuple (Array.mk [Value.int IntKind.i64 n2, Value.nilIface])) h))) : unitAt P f_strconv_Atoi_78 10
  [5, 6, 47, 48, 49] [Value.string s1, Value.int IntKind.i64 n2, Value.slice p3 m4 m5, Value.int IntKind.i64 n6, Value.int IntKind.i64 n7] h Q := unit_ok (n := 400) (ann := annOf
  [(8, [0, 5]), (10, [5, 6, 47, 48, 49])]) (Eq.mp (by kernel_rfl) H)
theorem r_strconv_toError {s1 : ByteArray} {s2 : ByteArray} {n3 : Int} {n4 : Int} {x5 : TypeId} {v6 : Value} {h : AW} {Q : Value → AW → Prop} (H : oB (eqV P ty_error false (Value.iface x5 v6)
  (Value.iface ty_strconv_Error (Value.int IntKind.i64 2))) fun b7 => bC b7 (EvQ P f_strconv_syntaxError [Value.string s1, Value.string s2] h fun v8 h9 => vPtr v8 fun p10 => Q (Value.iface ty_p_strconv_NumError
  (Value.pointer p10)) h9) (oB (eqV P ty_error false (Value.iface x5 v6) (Value.iface ty_strconv_Error (Value.int IntKind.i64 1))) fun b11 => bC b11 (EvQ P f_strconv_rangeError [Value.string s1, Value.string
  s2] h fun v12 h13 => vPtr v12 fun p14 => Q (Value.iface ty_p_strconv_NumError (Value.pointer p14)) h13) (oB (eqV P ty_error false (Value.iface x5 v6) (Value.iface ty_strconv_Error (Value.int IntKind.i64
  3))) fun b15 => bC b15 (EvQ P f_strconv_baseError [Value.string s1, Value.string s2, Value.int IntKind.i64 n3] h fun v16 h17 => vPtr v16 fun p18 => Q (Value.iface ty_p_strconv_NumError (Value.pointer p18))
  h17) (oB (eqV P ty_error false (Value.iface x5 v6) (Value.iface ty_strconv_Error (Value.int IntKind.i64 4))) fun b19 => bC b19 (EvQ P f_strconv_bitSizeError [Value.string s1, Value.string s2, Value.int
  IntKind.i64 n4] h fun v20 h21 => vPtr v20 fun p22 => Q (Value.iface ty_p_strconv_NumError (Value.pointer p22)) h21) (Q (Value.iface x5 v6) h))))) : EvQ P f_strconv_toError [Value.string s1, Value.string s2,
  Value.int IntKind.i64 n3, Value.int IntKind.i64 n4, Value.iface x5 v6] h Q := fn_ok (n := 400) (ann := annOf []) (Eq.mp (by kernel_rfl) H)
theorem r_strconv_Itoa_85 {n1 : Int} {h : AW} {Q : Value → AW → Prop} (H : EvQ P f_strconv_FormatInt [Value.int IntKind.i64 n1, Value.int IntKind.i64 10] h fun v2 h3 => vStr v2 fun s4 => Q (Value.string
  s4) h3) : EvQ P f_strconv_Itoa_85 [Value.int IntKind.i64 n1] h Q := fn_ok (n := 400) (ann := annOf []) (Eq.mp (by kernel_rfl) H)
theorem r_strconv_ParseInt {s1 : ByteArray} {n2 : Int} {n3 : Int} {h : AW} {Q : Value → AW → Prop} (H : bC (bEq s1 (ByteArray.mk #[])) (Q (Value.tuple (Array.mk [Value.int IntKind.i64 0,
  Value.iface ty_strconv_Error (Value.int IntKind.i64 2)])) h) (oB (natIdx 0 (ByteArray.size s1)) fun m4 => oB (bAt s1 m4) fun n5 => bC (n5 == 43) (oB (natBnd 1 (ByteArray.size s1)) fun m6
  => unitAt P f_strconv_ParseInt 10 [0, 1, 2, 8] [Value.string (bSub s1 m6 (ByteArray.size s1)), Value.int IntKind.i64 n2, Value.int IntKind.i64 n3, Value.bool false] h Q) (bC (n5 == 45) (oB
  (natBnd 1 (ByteArray.size s1)) fun m7 => unitAt P f_strconv_ParseInt 10 [0, 1, 2, 8] [Value.string (bSub s1 m7 (ByteArray.size s1)), Value.int IntKind.i64 n2, Value.int IntKind.i64 n3,
  Value.bool true] h Q) (unitAt P f_strconv_ParseInt 10 [0, 1, 2, 8] [Value.string s1, Value.int IntKind.i64 n2, Value.int IntKind.i64 n3, Value.bool false] h Q)))) : EvQ P f_strconv_ParseInt [Value.string
  s1, Value.int IntKind.i64 n2, Value.int IntKind.i64 n3] h Q := fn_ok (n := 400) (ann := annOf [(10, [0, 1, 2, 8]), (16, [2, 8, 9])]) (Eq.mp (by kernel_rfl) H)
theorem r_strconv_ParseInt_10 {s1 : ByteArray} {n2 : Int} {n3 : Int} {b4 : Bool} {h : AW} {Q : Value → AW → Prop} (H : EvQ P f_strconv_ParseUint [Value.string s1, Value.int IntKind.i64 n2, Value.int
  IntKind.i64 n3] h fun v5 h6 => vTup v5 fun l7 => lC l7 fun v8 l9 => vInt IntKind.u64 v8 fun n10 => lC l9 fun v11 l12 => vIfc v11 (lN l12 (bC (n3 == 0) (unitAt P f_strconv_ParseInt 16 [2, 8, 9]
  [Value.int IntKind.i64 64, Value.bool b4, Value.int IntKind.u64 n10] h6 Q) (unitAt P f_strconv_ParseInt 16 [2, 8, 9] [Value.int IntKind.i64 n3, Value.bool b4, Value.int IntKind.u64 n10] h6
  Q))) fun m13 v14 => lN l12 (oB (eqV P ty_error false (Value.iface m13 v14) (Value.iface ty_strconv_Error (Value.int IntKind.i64 1))) fun b15 => bC (!b15) (Q (Value.tuple (Array.mk [Value.int
  IntKind.i64 0, Value.iface m13 v14])) h6) (bC (n3 == 0) (unitAt P f_strconv_ParseInt 16 [2, 8, 9] [Value.int IntKind.i64 64, Value.bool b4, Value.int IntKind.u64 n10] h6 Q) (unitAt P f_strconv_ParseInt 16
  [2, 8, 9] [Value.int IntKind.i64 n3, Value.bool b4, Value.int IntKind.u64 n10] h6 Q)))) : unitAt P f_strconv_ParseInt 10 [0, 1, 2, 8] [Value.string s1, Value.int IntKind.i64 n2, Value.int
  IntKind.i64 n3, Value.bool b4] h Q := unit_ok (n := 400) (ann := annOf [(10, [0, 1, 2, 8]), (16, [2, 8, 9])]) (Eq.mp (by kernel_rfl) H)
theorem r_strconv_ParseInt_16 {n1 : Int} {b2 : Bool} {n3 : Int} {h : AW} {Q : Value → AW → Prop} (H : bC (decide (IntKind.wrap IntKind.u64 (IntKind.wrap IntKind.i64 (n1 - 1)) < 0)) False (bC
  (!b2) (bC (decide (n3 ≥ IntKind.wrap IntKind.u64 (1 * 2 ^ min (Int.toNat (IntKind.wrap IntKind.u64 (IntKind.wrap IntKind.i64 (n1 - 1)))) 64))) (Q (Value.tuple (Array.mk
  [Value.int IntKind.i64 (IntKind.wrap IntKind.i64 (IntKind.wrap IntKind.u64 (IntKind.wrap IntKind.u64 (1 * 2 ^ min (Int.toNat (IntKind.wrap IntKind.u64 (IntKind.wrap IntKind.i64
  (n1 - 1)))) 64) - 1))), Value.iface ty_strconv_Error (Value.int IntKind.i64 1)])) h) (bC b2 (bC (decide (n3 > IntKind.wrap IntKind.u64 (1 * 2 ^ min (Int.toNat (IntKind.wrap IntKind.u64
  (IntKind.wrap IntKind.i64 (n1 - 1)))) 64))) (Q (Value.tuple (Array.mk [Value.int IntKind.i64 (IntKind.wrap IntKind.i64 (0 - IntKind.wrap IntKind.i64 (IntKind.wrap IntKind.u64 (1
  * 2 ^ min (Int.toNat (IntKind.wrap IntKind.u64 (IntKind.wrap IntKind.i64 (n1 - 1)))) 64)))), Value.iface ty_strconv_Error (Value.int IntKind.i64 1)])) h) (bC b2 (Q (Value.tuple (Array.mk
  [Value.int IntKind.i64 (IntKind.wrap IntKind.i64 (0 - IntKind.wrap IntKind.i64 n3)), Value.nilIface])) h) (Q (Value.tuple (Array.mk [Value.int IntKind.i64 (IntKind.wrap
  IntKind.i64 n3), Value.nilIface])) h))) (bC b2 (Q (Value.tuple (Array.mk [Value.int IntKind.i64 (IntKind.wrap IntKind.i64 (0 - IntKind.wrap IntKind.i64 n3)), Value.nilIface])) h)
  (Q (Value.tuple (Array.mk [Value.int IntKind.i64 (IntKind.wrap IntKind.i64 n3), Value.nilIface])) h)))) (bC b2 (bC (decide (n3 > IntKind.wrap IntKind.u64 (1 * 2 ^ min (Int.toNat
  (IntKind.wrap IntKind.u64 (IntKind.wrap IntKind.i64 (n1 - 1)))) 64))) (Q (Value.tuple (Array.mk [Value.int IntKind.i64 (IntKind.wrap IntKind.i64 (0 - IntKind.wrap IntKind.i64
  (IntKind.wrap IntKind.u64 (1 * 2 ^ min (Int.toNat (IntKind.wrap IntKind.u64 (IntKind.wrap IntKind.i64 (n1 - 1)))) 64)))), Value.iface ty_strconv_Error (Value.int IntKind.i64 1)])) h) (bC
  b2 (Q (Value.tuple (Array.mk [Value.int IntKind.i64 (IntKind.wrap IntKind.i64 (0 - IntKind.wrap IntKind.i64 n3)), Value.nilIface])) h) (Q (Value.tuple (Array.mk [Value.int
  IntKind.i64 (IntKind.wrap IntKind.i64 n3), Value.nilIface])) h))) (bC b2 (Q (Value.tuple (Array.mk [Value.int IntKind.i64 (IntKind.wrap IntKind.i64 (0 - IntKind.wrap IntKind.i64
  n3)), Value.nilIface])) h) (Q (Value.tuple (Array.mk [Value.int IntKind.i64 (IntKind.wrap IntKind.i64 n3), Value.nilIface])) h))))) : unitAt P f_strconv_ParseInt 16 [2, 8, 9] [Value.int
  IntKind.i64 n1, Value.bool b2, Value.int IntKind.u64 n3] h Q := unit_ok (n := 400) (ann := annOf [(10, [0, 1, 2, 8]), (16, [2, 8, 9])]) (Eq.mp (by kernel_rfl) H)
theorem r_strconv_syntaxError {s1 : ByteArray} {s2 : ByteArray} {h : AW} {Q : Value → AW → Prop} (H : EvQ P f_stringslite_Clone [Value.string s2] h fun v3 h4 => vStr v3 fun s5 => oB (AW.rd h4 0 0) fun v6 =>
  vIfc v6 (oB (AW.rd h 0 0) fun v7 => vIfc v7 (Value.nilIface = Value.nilIface ∧ Q (Value.pointer (some (Addr.mk (AW.next h4) 0 none))) (AW.addVar h4 [Value.string s1, Value.string
  s5, Value.nilIface])) fun m8 v9 => Value.iface m8 v9 = Value.nilIface ∧ Q (Value.pointer (some (Addr.mk (AW.next h4) 0 none))) (AW.addVar h4 [Value.string s1, Value.string s5,
  Value.nilIface])) fun m10 v11 => False) : EvQ P f_strconv_syntaxError [Value.string s1, Value.string s2] h Q := fn_ok (n := 400) (ann := annOf []) (Eq.mp (by kernel_rfl) H)
theorem r_strconv_rangeError {s1 : ByteArray} {s2 : ByteArray} {h : AW} {Q : Value → AW → Prop} (H : EvQ P f_stringslite_Clone [Value.string s2] h fun v3 h4 => vStr v3 fun s5 => oB (AW.rd h4 1 0) fun v6 =>
  vIfc v6 (oB (AW.rd h 1 0) fun v7 => vIfc v7 (Value.nilIface = Value.nilIface ∧ Q (Value.pointer (some (Addr.mk (AW.next h4) 0 none))) (AW.addVar h4 [Value.string s1, Value.string
  s5, Value.nilIface])) fun m8 v9 => Value.iface m8 v9 = Value.nilIface ∧ Q (Value.pointer (some (Addr.mk (AW.next h4) 0 none))) (AW.addVar h4 [Value.string s1, Value.string s5,
  Value.nilIface])) fun m10 v11 => False) : EvQ P f_strconv_rangeError [Value.string s1, Value.string s2] h Q := fn_ok (n := 400) (ann := annOf []) (Eq.mp (by kernel_rfl) H)
theorem r_strconv_baseError {s1 : ByteArray} {s2 : ByteArray} {n3 : Int} {h : AW} {Q : Value → AW → Prop} (H : EvQ P f_stringslite_Clone [Value.string s2] h fun v4 h5 => vStr v4 fun s6 => EvQ P f_strconv_Itoa
  [Value.int IntKind.i64 n3] h5 fun v7 h8 => vStr v7 fun s9 => bC (Nat.ble (13 + ByteArray.size s9) 9223372036854775807) (EvQ P f_errors_New [Value.string (ByteArray.mk #[105, 110, 118,
  97, 108, 105, 100, 32, 98, 97, 115, 101, 32] ++ s9)] h8 fun v10 h11 => vIfc v10 (Q (Value.pointer (some (Addr.mk (AW.next h11) 0 none))) (AW.addVar h11 [Value.string s1,
  Value.string s6, Value.nilIface])) fun m12 v13 => Q (Value.pointer (some (Addr.mk (AW.next h11) 0 none))) (AW.addVar h11 [Value.string s1, Value.string s6, Value.iface m12 v13]))
  False) : EvQ P f_strconv_baseError [Value.string s1, Value.string s2, Value.int IntKind.i64 n3] h Q := fn_ok (n := 400) (ann := annOf []) (Eq.mp (by kernel_rfl) H)
theorem r_strconv_bitSizeError {s1 : ByteArray} {s2 : ByteArray} {n3 : Int} {h : AW} {Q : Value → AW → Prop} (H : EvQ P f_stringslite_Clone [Value.string s2] h fun v4 h5 => vStr v4 fun s6 => EvQ P f_strconv_Itoa
  [Value.int IntKind.i64 n3] h5 fun v7 h8 => vStr v7 fun s9 => bC (Nat.ble (17 + ByteArray.size s9) 9223372036854775807) (EvQ P f_errors_New [Value.string (ByteArray.mk #[105, 110, 118,
  97, 108, 105, 100, 32, 98, 105, 116, 32, 115, 105, 122, 101, 32] ++ s9)] h8 fun v10 h11 => vIfc v10 (Q (Value.pointer (some (Addr.mk (AW.next h11) 0 none))) (AW.addVar h11
  [Value.string s1, Value.string s6, Value.nilIface])) fun m12 v13 => Q (Value.pointer (some (Addr.mk (AW.next h11) 0 none))) (AW.addVar h11 [Value.string s1, Value.string s6,
  Value.iface m12 v13])) False) : EvQ P f_strconv_bitSizeError [Value.string s1, Value.string s2, Value.int IntKind.i64 n3] h Q := fn_ok (n := 400) (ann := annOf []) (Eq.mp (by kernel_rfl) H)
theorem r_strconv_FormatInt {n1 : Int} {n2 : Int} {h : AW} {Q : Value → AW → Prop} (H : bC (n2 == 10) (bC (decide (0 ≤ n1)) (bC (decide (n1 < 100)) (EvQ P f_strconv_small [Value.int IntKind.i64 n1] h
  fun v3 h4 => vStr v3 fun s5 => Q (Value.string s5) h4) (bC (decide (n1 < 0)) (unitAt P f_strconv_FormatInt 8 [0, 5, 6] [Value.int IntKind.i64 n1, Value.pointer (some (Addr.mk (AW.next h) 0
  none)), Value.int IntKind.u64 (IntKind.wrap IntKind.u64 (0 - IntKind.wrap IntKind.u64 n1))] (AW.addVar h [Value.int IntKind.u8 0, Value.int IntKind.u8 0, Value.int IntKind.u8 0,
  Value.int IntKind.u8 0, Value.int IntKind.u8 0, Value.int IntKind.u8 0, Value.int IntKind.u8 0, Value.int IntKind.u8 0, Value.int IntKind.u8 0, Value.int IntKind.u8 0, Value.int
  IntKind.u8 0, Value.int IntKind.u8 0, Value.int IntKind.u8 0, Value.int IntKind.u8 0, Value.int IntKind.u8 0, Value.int IntKind.u8 0, Value.int IntKind.u8 0, Value.int IntKind.u8
  0, Value.int IntKind.u8 0, Value.int IntKind.u8 0, Value.int IntKind.u8 0, Value.int IntKind.u8 0, Value.int IntKind.u8 0, Value.int IntKind.u8 0]) Q) (unitAt P f_strconv_FormatInt 8 [0, 5, 6]
  [Value.int IntKind.i64 n1, Value.pointer (some (Addr.mk (AW.next h) 0 none)), Value.int IntKind.u64 (IntKind.wrap IntKind.u64 n1)] (AW.addVar h [Value.int IntKind.u8 0, Value.int
  IntKind.u8 0, Value.int IntKind.u8 0, Value.int IntKind.u8 0, Value.int IntKind.u8 0, Value.int IntKind.u8 0, Value.int IntKind.u8 0, Value.int IntKind.u8 0, Value.int IntKind.u8
  0, Value.int IntKind.u8 0, Value.int IntKind.u8 0, Value.int IntKind.u8 0, Value.int IntKind.u8 0, Value.int IntKind.u8 0, Value.int IntKind.u8 0, Value.int IntKind.u8 0,
  Value.int IntKind.u8 0, Value.int IntKind.u8 0, Value.int IntKind.u8 0, Value.int IntKind.u8 0, Value.int IntKind.u8 0, Value.int IntKind.u8 0, Value.int IntKind.u8 0, Value.int
  IntKind.u8 0]) Q))) (bC (decide (n1 < 0)) (unitAt P f_strconv_FormatInt 8 [0, 5, 6] [Value.int IntKind.i64 n1, Value.pointer (some (Addr.mk (AW.next h) 0 none)), Value.int IntKind.u64
  (IntKind.wrap IntKind.u64 (0 - IntKind.wrap IntKind.u64 n1))] (AW.addVar h [Value.int IntKind.u8 0, Value.int IntKind.u8 0, Value.int IntKind.u8 0, Value.int IntKind.u8 0,
  Value.int IntKind.u8 0, Value.int IntKind.u8 0, Value.int IntKind.u8 0, Value.int IntKind.u8 0, Value.int IntKind.u8 0, Value.int IntKind.u8 0, Value.int IntKind.u8 0, Value.int
  IntKind.u8 0, Value.int IntKind.u8 0, Value.int IntKind.u8 0, Value.int IntKind.u8 0, Value.int IntKind.u8 0, Value.int IntKind.u8 0, Value.int IntKind.u8 0, Value.int IntKind.u8
  0, Value.int IntKind.u8 0, Value.int IntKind.u8 0, Value.int IntKind.u8 0, Value.int IntKind.u8 0, Value.int IntKind.u8 0]) Q) (unitAt P f_strconv_FormatInt 8 [0, 5, 6] [Value.int IntKind.i64
  n1, Value.pointer (some (Addr.mk (AW.next h) 0 none)), Value.int IntKind.u64 (IntKind.wrap IntKind.u64 n1)] (AW.addVar h [Value.int IntKind.u8 0, Value.int IntKind.u8 0,
  Value.int IntKind.u8 0, Value.int IntKind.u8 0, Value.int IntKind.u8 0, Value.int IntKind.u8 0, Value.int IntKind.u8 0, Value.int IntKind.u8 0, Value.int IntKind.u8 0, Value.int
  IntKind.u8 0, Value.int IntKind.u8 0, Value.int IntKind.u8 0, Value.int IntKind.u8 0, Value.int IntKind.u8 0, Value.int IntKind.u8 0, Value.int IntKind.u8 0, Value.int IntKind.u8
  0, Value.int IntKind.u8 0, Value.int IntKind.u8 0, Value.int IntKind.u8 0, Value.int IntKind.u8 0, Value.int IntKind.u8 0, Value.int IntKind.u8 0, Value.int IntKind.u8 0]) Q)))
  (EvQ P f_strconv_formatBits [Value.slice none 0 0, Value.int IntKind.u64 (IntKind.wrap IntKind.u64 n1), Value.int IntKind.i64 n2, Value.bool (decide (n1 < 0)), Value.bool false] h fun v6 h7 =>
  vTup v6 fun l8 => lC l8 fun v9 l10 => vSl v9 fun p11 m12 m13 => lC l10 fun v14 l15 => vStr v14 fun s16 => lN l15 (Q (Value.string s16) h7))) : EvQ P f_strconv_FormatInt [Value.int IntKind.i64
  n1, Value.int IntKind.i64 n2] h Q := fn_ok (n := 400) (ann := annOf [(8, [0, 5, 6])]) (Eq.mp (by kernel_rfl) H)
theorem r_strconv_FormatInt_8 {n1 : Int} {m2 : Nat} {n3 : Int} {h : AW} {Q : Value → AW → Prop} (H : EvQ P f_strconv_numDigits [Value.int IntKind.u64 n3] h fun v4 h5 => vInt IntKind.i64 v4 fun n6 => oB
  (sliceQ P h5 ty_24_uint8 (Value.pointer (some (Addr.mk m2 0 none))) (some (Value.int IntKind.i64 1)) (some (Value.int IntKind.i64 (IntKind.wrap IntKind.i64 (1 + n6))))) fun v7 => vSl
  v7 fun p8 m9 m10 => EvQ P f_strconv_formatBase10 [Value.slice p8 m9 m10, Value.int IntKind.u64 n3] h5 fun v11 h12 => bC (decide (n1 < 0)) (oB (natIdx 0 24) fun m13 => oB (AW.wr h12 m2 (0 + m13 *
  1) (Value.int IntKind.u8 45)) fun h14 => oB (sliceQ P h14 ty_24_uint8 (Value.pointer (some (Addr.mk m2 0 none))) none (some (Value.int IntKind.i64 (IntKind.wrap IntKind.i64 (1 +
  n6))))) fun v15 => vSl v15 fun p16 m17 m18 => oB (AW.bytes h14 p16 m17) fun s19 => Q (Value.string s19) h14) (oB (sliceQ P h12 ty_24_uint8 (Value.pointer (some (Addr.mk m2 0 none)))
  (some (Value.int IntKind.i64 1)) (some (Value.int IntKind.i64 (IntKind.wrap IntKind.i64 (1 + n6))))) fun v20 => vSl v20 fun p21 m22 m23 => oB (AW.bytes h12 p21 m22) fun s24 => Q
  (Value.string s24) h12)) : unitAt P f_strconv_FormatInt 8 [0, 5, 6] [Value.int IntKind.i64 n1, Value.pointer (some (Addr.mk m2 0 none)), Value.int IntKind.u64 n3] h Q := unit_ok (n := 400)
  (ann := annOf [(8, [0, 5, 6])]) (Eq.mp (by kernel_rfl) H)
theorem r_strconv_ParseUint {s1 : ByteArray} {n2 : Int} {n3 : Int} {h : AW} {Q : Value → AW → Prop} (H : bC (bEq s1 (ByteArray.mk #[])) (Q (Value.tuple (Array.mk [Value.int IntKind.u64 0,
  Value.iface ty_strconv_Error (Value.int IntKind.i64 2)])) h) (bC (decide (2 ≤ n2)) (bC (decide (n2 ≤ 36)) (unitAt P f_strconv_ParseUint 21 [0, 1, 2, 8, 9] [Value.string s1, Value.int IntKind.i64 n2,
  Value.int IntKind.i64 n3, Value.bool (n2 == 0), Value.string s1] h Q) (bC (n2 == 0) (oB (natIdx 0 (ByteArray.size s1)) fun m4 => oB (bAt s1 m4) fun n5 => bC (n5 == 48) (bC
  (decide ((↑(ByteArray.size s1) : Int) ≥ 3)) (oB (natIdx 1 (ByteArray.size s1)) fun m6 => oB (bAt s1 m6) fun n7 => EvQ P f_strconv_lower [Value.int IntKind.u8 n7] h fun v8 h9 => vInt
  IntKind.u8 v8 fun n10 => bC (n10 == 98) (oB (natBnd 2 (ByteArray.size s1)) fun m11 => unitAt P f_strconv_ParseUint 21 [0, 1, 2, 8, 9] [Value.string (bSub s1 m11 (ByteArray.size s1)), Value.int
  IntKind.i64 2, Value.int IntKind.i64 n3, Value.bool (n2 == 0), Value.string s1] h9 Q) (bC (decide ((↑(ByteArray.size s1) : Int) ≥ 3)) (oB (natIdx 1 (ByteArray.size s1)) fun m12
  => oB (bAt s1 m12) fun n13 => EvQ P f_strconv_lower [Value.int IntKind.u8 n13] h9 fun v14 h15 => vInt IntKind.u8 v14 fun n16 => bC (n16 == 111) (oB (natBnd 2 (ByteArray.size s1)) fun m17
  => unitAt P f_strconv_ParseUint 21 [0, 1, 2, 8, 9] [Value.string (bSub s1 m17 (ByteArray.size s1)), Value.int IntKind.i64 8, Value.int IntKind.i64 n3, Value.bool (n2 == 0), Value.string s1]
  h15 Q) (bC (decide ((↑(ByteArray.size s1) : Int) ≥ 3)) (oB (natIdx 1 (ByteArray.size s1)) fun m18 => oB (bAt s1 m18) fun n19 => EvQ P f_strconv_lower [Value.int IntKind.u8 n19] h15 fun v20
  h21 => vInt IntKind.u8 v20 fun n22 => bC (n22 == 120) (oB (natBnd 2 (ByteArray.size s1)) fun m23 => unitAt P f_strconv_ParseUint 21 [0, 1, 2, 8, 9] [Value.string (bSub s1 m23 (ByteArray.size
  s1)), Value.int IntKind.i64 16, Value.int IntKind.i64 n3, Value.bool (n2 == 0), Value.string s1] h21 Q) (oB (natBnd 1 (ByteArray.size s1)) fun m24 => unitAt P f_strconv_ParseUint 21 [0, 1, 2,
  8, 9] [Value.string (bSub s1 m24 (ByteArray.size s1)), Value.int IntKind.i64 8, Value.int IntKind.i64 n3, Value.bool (n2 == 0), Value.string s1] h21 Q)) (oB (natBnd 1
  (ByteArray.size s1)) fun m25 => unitAt P f_strconv_ParseUint 21 [0, 1, 2, 8, 9] [Value.string (bSub s1 m25 (ByteArray.size s1)), Value.int IntKind.i64 8, Value.int IntKind.i64 n3, Value.bool
  (n2 == 0), Value.string s1] h15 Q))) (bC (decide ((↑(ByteArray.size s1) : Int) ≥ 3)) (oB (natIdx 1 (ByteArray.size s1)) fun m26 => oB (bAt s1 m26) fun n27 => EvQ P f_strconv_lower
  [Value.int IntKind.u8 n27] h9 fun v28 h29 => vInt IntKind.u8 v28 fun n30 => bC (n30 == 120) (oB (natBnd 2 (ByteArray.size s1)) fun m31 => unitAt P f_strconv_ParseUint 21 [0, 1, 2, 8, 9]
  [Value.string (bSub s1 m31 (ByteArray.size s1)), Value.int IntKind.i64 16, Value.int IntKind.i64 n3, Value.bool (n2 == 0), Value.string s1] h29 Q) (oB (natBnd 1 (ByteArray.size
  s1)) fun m32 => unitAt P f_strconv_ParseUint 21 [0, 1, 2, 8, 9] [Value.string (bSub s1 m32 (ByteArray.size s1)), Value.int IntKind.i64 8, Value.int IntKind.i64 n3, Value.bool (n2 == 0),
  Value.string s1] h29 Q)) (oB (natBnd 1 (ByteArray.size s1)) fun m33 => unitAt P f_strconv_ParseUint 21 [0, 1, 2, 8, 9] [Value.string (bSub s1 m33 (ByteArray.size s1)), Value.int IntKind.i64 8,
  Value.int IntKind.i64 n3, Value.bool (n2 == 0), Value.string s1] h9 Q)))) (bC (decide ((↑(ByteArray.size s1) : Int) ≥ 3)) (oB (natIdx 1 (ByteArray.size s1)) fun m34 => oB (bAt s1
  m34) fun n35 => EvQ P f_strconv_lower [Value.int IntKind.u8 n35] h fun v36 h37 => vInt IntKind.u8 v36 fun n38 => bC (n38 == 111) (oB (natBnd 2 (ByteArray.size s1)) fun m39 => unitAt P
  f_strconv_ParseUint 21 [0, 1, 2, 8, 9] [Value.string (bSub s1 m39 (ByteArray.size s1)), Value.int IntKind.i64 8, Value.int IntKind.i64 n3, Value.bool (n2 == 0), Value.string s1] h37 Q) (bC
  (decide ((↑(ByteArray.size s1) : Int) ≥ 3)) (oB (natIdx 1 (ByteArray.size s1)) fun m40 => oB (bAt s1 m40) fun n41 => EvQ P f_strconv_lower [Value.int IntKind.u8 n41] h37 fun v42 h43 =>
  vInt IntKind.u8 v42 fun n44 => bC (n44 == 120) (oB (natBnd 2 (ByteArray.size s1)) fun m45 => unitAt P f_strconv_ParseUint 21 [0, 1, 2, 8, 9] [Value.string (bSub s1 m45 (ByteArray.size s1)),
  Value.int IntKind.i64 16, Value.int IntKind.i64 n3, Value.bool (n2 == 0), Value.string s1] h43 Q) (oB (natBnd 1 (ByteArray.size s1)) fun m46 => unitAt P f_strconv_ParseUint 21 [0, 1, 2, 8, 9]
  [Value.string (bSub s1 m46 (ByteArray.size s1)), Value.int IntKind.i64 8, Value.int IntKind.i64 n3, Value.bool (n2 == 0), Value.string s1] h43 Q)) (oB (natBnd 1 (ByteArray.size
  s1)) fun m47 => unitAt P f_strconv_ParseUint 21 [0, 1, 2, 8, 9] [Value.string (bSub s1 m47 (ByteArray.size s1)), Value.int IntKind.i64 8, Value.int IntKind.i64 n3, Value.bool (n2 == 0),
  Value.string s1] h37 Q))) (bC (decide ((↑(ByteArray.size s1) : Int) ≥ 3)) (oB (natIdx 1 (ByteArray.size s1)) fun m48 => oB (bAt s1 m48) fun n49 => EvQ P f_strconv_lower [Value.int
  IntKind.u8 n49] h fun v50 h51 => vInt IntKind.u8 v50 fun n52 => bC (n52 == 120) (oB (natBnd 2 (ByteArray.size s1)) fun m53 => unitAt P f_strconv_ParseUint 21 [0, 1, 2, 8, 9] [Value.string
  (bSub s1 m53 (ByteArray.size s1)), Value.int IntKind.i64 16, Value.int IntKind.i64 n3, Value.bool (n2 == 0), Value.string s1] h51 Q) (oB (natBnd 1 (ByteArray.size s1)) fun m54 =>
  unitAt P f_strconv_ParseUint 21 [0, 1, 2, 8, 9] [Value.string (bSub s1 m54 (ByteArray.size s1)), Value.int IntKind.i64 8, Value.int IntKind.i64 n3, Value.bool (n2 == 0), Value.string s1] h51
  Q)) (oB (natBnd 1 (ByteArray.size s1)) fun m55 => unitAt P f_strconv_ParseUint 21 [0, 1, 2, 8, 9] [Value.string (bSub s1 m55 (ByteArray.size s1)), Value.int IntKind.i64 8, Value.int
  IntKind.i64 n3, Value.bool (n2 == 0), Value.string s1] h Q)))) (unitAt P f_strconv_ParseUint 21 [0, 1, 2, 8, 9] [Value.string s1, Value.int IntKind.i64 10, Value.int IntKind.i64 n3, Value.bool
  (n2 == 0), Value.string s1] h Q)) (Q (Value.tuple (Array.mk [Value.int IntKind.u64 0, Value.iface ty_strconv_Error (Value.int IntKind.i64 3)])) h))) (bC (n2 == 0) (oB (natIdx 0
  (ByteArray.size s1)) fun m56 => oB (bAt s1 m56) fun n57 => bC (n57 == 48) (bC (decide ((↑(ByteArray.size s1) : Int) ≥ 3)) (oB (natIdx 1 (ByteArray.size s1)) fun m58 => oB (bAt s1
  m58) fun n59 => EvQ P f_strconv_lower [Value.int IntKind.u8 n59] h fun v60 h61 => vInt IntKind.u8 v60 fun n62 => bC (n62 == 98) (oB (natBnd 2 (ByteArray.size s1)) fun m63 => unitAt P f_strconv_ParseUint
  21 [0, 1, 2, 8, 9] [Value.string (bSub s1 m63 (ByteArray.size s1)), Value.int IntKind.i64 2, Value.int IntKind.i64 n3, Value.bool (n2 == 0), Value.string s1] h61 Q) (bC (decide
  ((↑(ByteArray.size s1) : Int) ≥ 3)) (oB (natIdx 1 (ByteArray.size s1)) fun m64 => oB (bAt s1 m64) fun n65 => EvQ P f_strconv_lower [Value.int IntKind.u8 n65] h61 fun v66 h67 => vInt
  IntKind.u8 v66 fun n68 => bC (n68 == 111) (oB (natBnd 2 (ByteArray.size s1)) fun m69 => unitAt P f_strconv_ParseUint 21 [0, 1, 2, 8, 9] [Value.string (bSub s1 m69 (ByteArray.size s1)),
  Value.int IntKind.i64 8, Value.int IntKind.i64 n3, Value.bool (n2 == 0), Value.string s1] h67 Q) (bC (decide ((↑(ByteArray.size s1) : Int) ≥ 3)) (oB (natIdx 1 (ByteArray.size
  s1)) fun m70 => oB (bAt s1 m70) fun n71 => EvQ P f_strconv_lower [Value.int IntKind.u8 n71] h67 fun v72 h73 => vInt IntKind.u8 v72 fun n74 => bC (n74 == 120) (oB (natBnd 2 (ByteArray.size
  s1)) fun m75 => unitAt P f_strconv_ParseUint 21 [0, 1, 2, 8, 9] [Value.string (bSub s1 m75 (ByteArray.size s1)), Value.int IntKind.i64 16, Value.int IntKind.i64 n3, Value.bool (n2 == 0),
  Value.string s1] h73 Q) (oB (natBnd 1 (ByteArray.size s1)) fun m76 => unitAt P f_strconv_ParseUint 21 [0, 1, 2, 8, 9] [Value.string (bSub s1 m76 (ByteArray.size s1)), Value.int IntKind.i64 8,
  Value.int IntKind.i64 n3, Value.bool (n2 == 0), Value.string s1] h73 Q)) (oB (natBnd 1 (ByteArray.size s1)) fun m77 => unitAt P f_strconv_ParseUint 21 [0, 1, 2, 8, 9] [Value.string (bSub s1
  m77 (ByteArray.size s1)), Value.int IntKind.i64 8, Value.int IntKind.i64 n3, Value.bool (n2 == 0), Value.string s1] h67 Q))) (bC (decide ((↑(ByteArray.size s1) : Int) ≥ 3)) (oB
  (natIdx 1 (ByteArray.size s1)) fun m78 => oB (bAt s1 m78) fun n79 => EvQ P f_strconv_lower [Value.int IntKind.u8 n79] h61 fun v80 h81 => vInt IntKind.u8 v80 fun n82 => bC (n82 == 120) (oB
  (natBnd 2 (ByteArray.size s1)) fun m83 => unitAt P f_strconv_ParseUint 21 [0, 1, 2, 8, 9] [Value.string (bSub s1 m83 (ByteArray.size s1)), Value.int IntKind.i64 16, Value.int IntKind.i64 n3,
  Value.bool (n2 == 0), Value.string s1] h81 Q) (oB (natBnd 1 (ByteArray.size s1)) fun m84 => unitAt P f_strconv_ParseUint 21 [0, 1, 2, 8, 9] [Value.string (bSub s1 m84 (ByteArray.size s1)),
  Value.int IntKind.i64 8, Value.int IntKind.i64 n3, Value.bool (n2 == 0), Value.string s1] h81 Q)) (oB (natBnd 1 (ByteArray.size s1)) fun m85 => unitAt P f_strconv_ParseUint 21 [0, 1, 2, 8, 9]
  [Value.string (bSub s1 m85 (ByteArray.size s1)), Value.int IntKind.i64 8, Value.int IntKind.i64 n3, Value.bool (n2 == 0), Value.string s1] h61 Q)))) (bC (decide
  ((↑(ByteArray.size s1) : Int) ≥ 3)) (oB (natIdx 1 (ByteArray.size s1)) fun m86 => oB (bAt s1 m86) fun n87 => EvQ P f_strconv_lower [Value.int IntKind.u8 n87] h fun v88 h89 => vInt
  IntKind.u8 v88 fun n90 => bC (n90 == 111) (oB (natBnd 2 (ByteArray.size s1)) fun m91 => unitAt P f_strconv_ParseUint 21 [0, 1, 2, 8, 9] [Value.string (bSub s1 m91 (ByteArray.size s1)),
  Value.int IntKind.i64 8, Value.int IntKind.i64 n3, Value.bool (n2 == 0), Value.string s1] h89 Q) (bC (decide ((↑(ByteArray.size s1) : Int) ≥ 3)) (oB (natIdx 1 (ByteArray.size
  s1)) fun m92 => oB (bAt s1 m92) fun n93 => EvQ P f_strconv_lower [Value.int IntKind.u8 n93] h89 fun v94 h95 => vInt IntKind.u8 v94 fun n96 => bC (n96 == 120) (oB (natBnd 2 (ByteArray.size
  s1)) fun m97 => unitAt P f_strconv_ParseUint 21 [0, 1, 2, 8, 9] [Value.string (bSub s1 m97 (ByteArray.size s1)), Value.int IntKind.i64 16, Value.int IntKind.i64 n3, Value.bool (n2 == 0),
  Value.string s1] h95 Q) (oB (natBnd 1 (ByteArray.size s1)) fun m98 => unitAt P f_strconv_ParseUint 21 [0, 1, 2, 8, 9] [Value.string (bSub s1 m98 (ByteArray.size s1)), Value.int IntKind.i64 8,
  Value.int IntKind.i64 n3, Value.bool (n2 == 0), Value.string s1] h95 Q)) (oB (natBnd 1 (ByteArray.size s1)) fun m99 => unitAt P f_strconv_ParseUint 21 [0, 1, 2, 8, 9] [Value.string (bSub s1
  m99 (ByteArray.size s1)), Value.int IntKind.i64 8, Value.int IntKind.i64 n3, Value.bool (n2 == 0), Value.string s1] h89 Q))) (bC (decide ((↑(ByteArray.size s1) : Int) ≥ 3)) (oB
  (natIdx 1 (ByteArray.size s1)) fun m100 => oB (bAt s1 m100) fun n101 => EvQ P f_strconv_lower [Value.int IntKind.u8 n101] h fun v102 h103 => vInt IntKind.u8 v102 fun n104 => bC (n104 ==
  120) (oB (natBnd 2 (ByteArray.size s1)) fun m105 => unitAt P f_strconv_ParseUint 21 [0, 1, 2, 8, 9] [Value.string (bSub s1 m105 (ByteArray.size s1)), Value.int IntKind.i64 16, Value.int
  IntKind.i64 n3, Value.bool (n2 == 0), Value.string s1] h103 Q) (oB (natBnd 1 (ByteArray.size s1)) fun m106 => unitAt P f_strconv_ParseUint 21 [0, 1, 2, 8, 9] [Value.string (bSub s1 m106
  (ByteArray.size s1)), Value.int IntKind.i64 8, Value.int IntKind.i64 n3, Value.bool (n2 == 0), Value.string s1] h103 Q)) (oB (natBnd 1 (ByteArray.size s1)) fun m107 => unitAt P
  f_strconv_ParseUint 21 [0, 1, 2, 8, 9] [Value.string (bSub s1 m107 (ByteArray.size s1)), Value.int IntKind.i64 8, Value.int IntKind.i64 n3, Value.bool (n2 == 0), Value.string s1] h Q))))
  (unitAt P f_strconv_ParseUint 21 [0, 1, 2, 8, 9] [Value.string s1, Value.int IntKind.i64 10, Value.int IntKind.i64 n3, Value.bool (n2 == 0), Value.string s1] h Q)) (Q (Value.tuple (Array.mk
  [Value.int IntKind.u64 0, Value.iface ty_strconv_Error (Value.int IntKind.i64 3)])) h)))) : EvQ P f_strconv_ParseUint [Value.string s1, Value.int IntKind.i64 n2, Value.int IntKind.i64 n3] h Q := fn_ok
  (n := 400) (ann := annOf [(21, [0, 1, 2, 8, 9]), (25, [0, 1, 2, 8, 9]), (32, [0, 1, 2, 8, 9, 10]), (36, [1, 8, 9, 10, 11, 12, 13, 99, 100, 101]), (46, [1, 8, 9, 10, 11, 12, 13,
  16, 99, 100, 101])]) (Eq.mp (by kernel_rfl) H)
theorem r_strconv_ParseUint_21 {s1 : ByteArray} {n2 : Int} {n3 : Int} {b4 : Bool} {s5 : ByteArray} {h : AW} {Q : Value → AW → Prop} (H : bC (n3 == 0) (unitAt P f_strconv_ParseUint 25 [0, 1, 2, 8, 9]
  [Value.string s1, Value.int IntKind.i64 n2, Value.int IntKind.i64 64, Value.bool b4, Value.string s5] h Q) (bC (decide (n3 < 0)) (Q (Value.tuple (Array.mk [Value.int IntKind.u64
  0, Value.iface ty_strconv_Error (Value.int IntKind.i64 4)])) h) (bC (decide (n3 > 64)) (Q (Value.tuple (Array.mk [Value.int IntKind.u64 0, Value.iface ty_strconv_Error (Value.int IntKind.i64 4)]))
  h) (unitAt P f_strconv_ParseUint 25 [0, 1, 2, 8, 9] [Value.string s1, Value.int IntKind.i64 n2, Value.int IntKind.i64 n3, Value.bool b4, Value.string s5] h Q)))) : unitAt P f_strconv_ParseUint 21 [0, 1, 2,
  8, 9] [Value.string s1, Value.int IntKind.i64 n2, Value.int IntKind.i64 n3, Value.bool b4, Value.string s5] h Q := unit_ok (n := 400) (ann := annOf [(21, [0, 1, 2, 8, 9]), (25,
  [0, 1, 2, 8, 9]), (32, [0, 1, 2, 8, 9, 10]), (36, [1, 8, 9, 10, 11, 12, 13, 99, 100, 101]), (46, [1, 8, 9, 10, 11, 12, 13, 16, 99, 100, 101])]) (Eq.mp (by kernel_rfl) H)
theorem r_strconv_ParseUint_25 {s1 : ByteArray} {n2 : Int} {n3 : Int} {b4 : Bool} {s5 : ByteArray} {h : AW} {Q : Value → AW → Prop} (H : bC (n2 == 10) (unitAt P f_strconv_ParseUint 32 [0, 1, 2, 8, 9, 10]
  [Value.string s1, Value.int IntKind.i64 n2, Value.int IntKind.i64 n3, Value.bool b4, Value.string s5, Value.int IntKind.u64 1844674407370955162] h Q) (bC (n2 == 16) (unitAt P
  f_strconv_ParseUint 32 [0, 1, 2, 8, 9, 10] [Value.string s1, Value.int IntKind.i64 n2, Value.int IntKind.i64 n3, Value.bool b4, Value.string s5, Value.int IntKind.u64 1152921504606846976] h Q)
  (bC (decide (IntKind.wrap IntKind.u64 n2 = 0)) False (unitAt P f_strconv_ParseUint 32 [0, 1, 2, 8, 9, 10] [Value.string s1, Value.int IntKind.i64 n2, Value.int IntKind.i64 n3, Value.bool b4,
  Value.string s5, Value.int IntKind.u64 (IntKind.wrap IntKind.u64 (IntKind.wrap IntKind.u64 (Int.tdiv 18446744073709551615 (IntKind.wrap IntKind.u64 n2)) + 1))] h Q)))) : unitAt P
  f_strconv_ParseUint 25 [0, 1, 2, 8, 9] [Value.string s1, Value.int IntKind.i64 n2, Value.int IntKind.i64 n3, Value.bool b4, Value.string s5] h Q := unit_ok (n := 400) (ann := annOf [(21, [0,
  1, 2, 8, 9]), (25, [0, 1, 2, 8, 9]), (32, [0, 1, 2, 8, 9, 10]), (36, [1, 8, 9, 10, 11, 12, 13, 99, 100, 101]), (46, [1, 8, 9, 10, 11, 12, 13, 16, 99, 100, 101])]) (Eq.mp (by
  kernel_rfl) H)
theorem r_strconv_ParseUint_32 {s1 : ByteArray} {n2 : Int} {n3 : Int} {b4 : Bool} {s5 : ByteArray} {n6 : Int} {h : AW} {Q : Value → AW → Prop} (H : bC (decide (IntKind.wrap IntKind.u64 n3 <
  0)) False (oP (convA P h ty_string ty_sl_uint8 (Value.string s1)) fun v7 h8 => vSl v7 fun p9 m10 m11 => unitAt P f_strconv_ParseUint 36 [1, 8, 9, 10, 11, 12, 13, 99, 100, 101] [Value.int IntKind.i64 n2,
  Value.bool b4, Value.string s5, Value.int IntKind.u64 n6, Value.int IntKind.u64 (IntKind.wrap IntKind.u64 (IntKind.wrap IntKind.u64 (1 * 2 ^ min (Int.toNat (IntKind.wrap
  IntKind.u64 n3)) 64) - 1)), Value.bool false, Value.int IntKind.u64 0, Value.slice p9 m10 m11, Value.int IntKind.i64 (↑m10 : Int), Value.int IntKind.i64 0] h8 Q)) : unitAt P
  f_strconv_ParseUint 32 [0, 1, 2, 8, 9, 10] [Value.string s1, Value.int IntKind.i64 n2, Value.int IntKind.i64 n3, Value.bool b4, Value.string s5, Value.int IntKind.u64 n6] h Q := unit_ok (n :=
  400) (ann := annOf [(21, [0, 1, 2, 8, 9]), (25, [0, 1, 2, 8, 9]), (32, [0, 1, 2, 8, 9, 10]), (36, [1, 8, 9, 10, 11, 12, 13, 99, 100, 101]), (46, [1, 8, 9, 10, 11, 12, 13, 16, 99,
  100, 101])]) (Eq.mp (by kernel_rfl) H)
theorem r_strconv_ParseUint_36 {n1 : Int} {b2 : Bool} {s3 : ByteArray} {n4 : Int} {n5 : Int} {b6 : Bool} {n7 : Int} {p8 : Option Addr} {m9 : Nat} {m10 : Nat} {n11 : Int} {n12 : Int} {h : AW}
  {Q : Value → AW → Prop} (H : bC (decide (n12 < n11)) (aP p8 fun m13 m14 => oB (natIdx n12 m9) fun m15 => oB (AW.rd h m13 (m14 + m15 * 1)) fun v16 => vInt IntKind.u8 v16 fun n17
  => bC (n17 == 95) (bC b2 (unitAt P f_strconv_ParseUint 36 [1, 8, 9, 10, 11, 12, 13, 99, 100, 101] [Value.int IntKind.i64 n1, Value.bool b2, Value.string s3, Value.int IntKind.u64 n4, Value.int
  IntKind.u64 n5, Value.bool true, Value.int IntKind.u64 n7, Value.slice p8 m9 m10, Value.int IntKind.i64 n11, Value.int IntKind.i64 (IntKind.wrap IntKind.i64 (n12 + 1))] h Q) (bC
  (decide (48 ≤ n17)) (bC (decide (n17 ≤ 57)) (unitAt P f_strconv_ParseUint 46 [1, 8, 9, 10, 11, 12, 13, 16, 99, 100, 101] [Value.int IntKind.i64 n1, Value.bool b2, Value.string s3, Value.int
  IntKind.u64 n4, Value.int IntKind.u64 n5, Value.bool b6, Value.int IntKind.u64 n7, Value.int IntKind.u8 (IntKind.wrap IntKind.u8 (n17 - 48)), Value.slice p8 m9 m10, Value.int
  IntKind.i64 n11, Value.int IntKind.i64 n12] h Q) (EvQ P f_strconv_lower [Value.int IntKind.u8 n17] h fun v18 h19 => vInt IntKind.u8 v18 fun n20 => bC (decide (97 ≤ n20)) (EvQ P f_strconv_lower
  [Value.int IntKind.u8 n17] h19 fun v21 h22 => vInt IntKind.u8 v21 fun n23 => bC (decide (n23 ≤ 122)) (EvQ P f_strconv_lower [Value.int IntKind.u8 n17] h22 fun v24 h25 => vInt IntKind.u8
  v24 fun n26 => unitAt P f_strconv_ParseUint 46 [1, 8, 9, 10, 11, 12, 13, 16, 99, 100, 101] [Value.int IntKind.i64 n1, Value.bool b2, Value.string s3, Value.int IntKind.u64 n4, Value.int
  IntKind.u64 n5, Value.bool b6, Value.int IntKind.u64 n7, Value.int IntKind.u8 (IntKind.wrap IntKind.u8 (IntKind.wrap IntKind.u8 (n26 - 97) + 10)), Value.slice p8 m9 m10,
  Value.int IntKind.i64 n11, Value.int IntKind.i64 n12] h25 Q) (Q (Value.tuple (Array.mk [Value.int IntKind.u64 0, Value.iface ty_strconv_Error (Value.int IntKind.i64 2)])) h22)) (Q
  (Value.tuple (Array.mk [Value.int IntKind.u64 0, Value.iface ty_strconv_Error (Value.int IntKind.i64 2)])) h19))) (EvQ P f_strconv_lower [Value.int IntKind.u8 n17] h fun v27 h28 => vInt IntKind.u8
  v27 fun n29 => bC (decide (97 ≤ n29)) (EvQ P f_strconv_lower [Value.int IntKind.u8 n17] h28 fun v30 h31 => vInt IntKind.u8 v30 fun n32 => bC (decide (n32 ≤ 122)) (EvQ P f_strconv_lower [Value.int
  IntKind.u8 n17] h31 fun v33 h34 => vInt IntKind.u8 v33 fun n35 => unitAt P f_strconv_ParseUint 46 [1, 8, 9, 10, 11, 12, 13, 16, 99, 100, 101] [Value.int IntKind.i64 n1, Value.bool b2,
  Value.string s3, Value.int IntKind.u64 n4, Value.int IntKind.u64 n5, Value.bool b6, Value.int IntKind.u64 n7, Value.int IntKind.u8 (IntKind.wrap IntKind.u8 (IntKind.wrap
  IntKind.u8 (n35 - 97) + 10)), Value.slice p8 m9 m10, Value.int IntKind.i64 n11, Value.int IntKind.i64 n12] h34 Q) (Q (Value.tuple (Array.mk [Value.int IntKind.u64 0, Value.iface
  ty_strconv_Error (Value.int IntKind.i64 2)])) h31)) (Q (Value.tuple (Array.mk [Value.int IntKind.u64 0, Value.iface ty_strconv_Error (Value.int IntKind.i64 2)])) h28)))) (bC (decide (48 ≤ n17)) (bC
  (decide (n17 ≤ 57)) (unitAt P f_strconv_ParseUint 46 [1, 8, 9, 10, 11, 12, 13, 16, 99, 100, 101] [Value.int IntKind.i64 n1, Value.bool b2, Value.string s3, Value.int IntKind.u64 n4, Value.int
  IntKind.u64 n5, Value.bool b6, Value.int IntKind.u64 n7, Value.int IntKind.u8 (IntKind.wrap IntKind.u8 (n17 - 48)), Value.slice p8 m9 m10, Value.int IntKind.i64 n11, Value.int
  IntKind.i64 n12] h Q) (EvQ P f_strconv_lower [Value.int IntKind.u8 n17] h fun v36 h37 => vInt IntKind.u8 v36 fun n38 => bC (decide (97 ≤ n38)) (EvQ P f_strconv_lower [Value.int IntKind.u8 n17] h37
  fun v39 h40 => vInt IntKind.u8 v39 fun n41 => bC (decide (n41 ≤ 122)) (EvQ P f_strconv_lower [Value.int IntKind.u8 n17] h40 fun v42 h43 => vInt IntKind.u8 v42 fun n44 => unitAt P f_strconv_ParseUint 46
  [1, 8, 9, 10, 11, 12, 13, 16, 99, 100, 101] [Value.int IntKind.i64 n1, Value.bool b2, Value.string s3, Value.int IntKind.u64 n4, Value.int IntKind.u64 n5, Value.bool b6,
  Value.int IntKind.u64 n7, Value.int IntKind.u8 (IntKind.wrap IntKind.u8 (IntKind.wrap IntKind.u8 (n44 - 97) + 10)), Value.slice p8 m9 m10, Value.int IntKind.i64 n11, Value.int
  IntKind.i64 n12] h43 Q) (Q (Value.tuple (Array.mk [Value.int IntKind.u64 0, Value.iface ty_strconv_Error (Value.int IntKind.i64 2)])) h40)) (Q (Value.tuple (Array.mk [Value.int IntKind.u64
  0, Value.iface ty_strconv_Error (Value.int IntKind.i64 2)])) h37))) (EvQ P f_strconv_lower [Value.int IntKind.u8 n17] h fun v45 h46 => vInt IntKind.u8 v45 fun n47 => bC (decide (97 ≤ n47)) (EvQ P
  f_strconv_lower [Value.int IntKind.u8 n17] h46 fun v48 h49 => vInt IntKind.u8 v48 fun n50 => bC (decide (n50 ≤ 122)) (EvQ P f_strconv_lower [Value.int IntKind.u8 n17] h49 fun v51 h52 => vInt
  IntKind.u8 v51 fun n53 => unitAt P f_strconv_ParseUint 46 [1, 8, 9, 10, 11, 12, 13, 16, 99, 100, 101] [Value.int IntKind.i64 n1, Value.bool b2, Value.string s3, Value.int IntKind.u64 n4,
  Value.int IntKind.u64 n5, Value.bool b6, Value.int IntKind.u64 n7, Value.int IntKind.u8 (IntKind.wrap IntKind.u8 (IntKind.wrap IntKind.u8 (n53 - 97) + 10)), Value.slice p8 m9
  m10, Value.int IntKind.i64 n11, Value.int IntKind.i64 n12] h52 Q) (Q (Value.tuple (Array.mk [Value.int IntKind.u64 0, Value.iface ty_strconv_Error (Value.int IntKind.i64 2)])) h49)) (Q
  (Value.tuple (Array.mk [Value.int IntKind.u64 0, Value.iface ty_strconv_Error (Value.int IntKind.i64 2)])) h46)))) (bC b6 (EvQ P f_strconv_underscoreOK [Value.string s3] h fun v54 h55 => vBool v54 fun b56
  => bC (!b56) (Q (Value.tuple (Array.mk [Value.int IntKind.u64 0, Value.iface ty_strconv_Error (Value.int IntKind.i64 2)])) h55) (Q (Value.tuple (Array.mk [Value.int IntKind.u64 n7,
  Value.nilIface])) h55)) (Q (Value.tuple (Array.mk [Value.int IntKind.u64 n7, Value.nilIface])) h))) : unitAt P f_strconv_ParseUint 36 [1, 8, 9, 10, 11, 12, 13, 99, 100, 101] [Value.int
  IntKind.i64 n1, Value.bool b2, Value.string s3, Value.int IntKind.u64 n4, Value.int IntKind.u64 n5, Value.bool b6, Value.int IntKind.u64 n7, Value.slice p8 m9 m10, Value.int
  IntKind.i64 n11, Value.int IntKind.i64 n12] h Q := unit_ok (n := 400) (ann := annOf [(21, [0, 1, 2, 8, 9]), (25, [0, 1, 2, 8, 9]), (32, [0, 1, 2, 8, 9, 10]), (36, [1, 8, 9, 10,
  11, 12, 13, 99, 100, 101]), (46, [1, 8, 9, 10, 11, 12, 13, 16, 99, 100, 101])]) (Eq.mp (by kernel_rfl) H)
theorem r_strconv_ParseUint_46 {n1 : Int} {b2 : Bool} {s3 : ByteArray} {n4 : Int} {n5 : Int} {b6 : Bool} {n7 : Int} {n8 : Int} {p9 : Option Addr} {m10 : Nat} {m11 : Nat} {n12 : Int} {n13 :
  Int} {h : AW} {Q : Value → AW → Prop} (H : bC (decide (n8 ≥ IntKind.wrap IntKind.u8 n1)) (Q (Value.tuple (Array.mk [Value.int IntKind.u64 0, Value.iface ty_strconv_Error (Value.int
  IntKind.i64 2)])) h) (bC (decide (n7 ≥ n4)) (Q (Value.tuple (Array.mk [Value.int IntKind.u64 n5, Value.iface ty_strconv_Error (Value.int IntKind.i64 1)])) h) (bC (decide (IntKind.wrap
  IntKind.u64 (IntKind.wrap IntKind.u64 (n7 * IntKind.wrap IntKind.u64 n1) + IntKind.wrap IntKind.u64 n8) < IntKind.wrap IntKind.u64 (n7 * IntKind.wrap IntKind.u64 n1))) (Q
  (Value.tuple (Array.mk [Value.int IntKind.u64 n5, Value.iface ty_strconv_Error (Value.int IntKind.i64 1)])) h) (bC (decide (IntKind.wrap IntKind.u64 (IntKind.wrap IntKind.u64 (n7 *
  IntKind.wrap IntKind.u64 n1) + IntKind.wrap IntKind.u64 n8) > n5)) (Q (Value.tuple (Array.mk [Value.int IntKind.u64 n5, Value.iface ty_strconv_Error (Value.int IntKind.i64 1)])) h) (unitAt
  P f_strconv_ParseUint 36 [1, 8, 9, 10, 11, 12, 13, 99, 100, 101] [Value.int IntKind.i64 n1, Value.bool b2, Value.string s3, Value.int IntKind.u64 n4, Value.int IntKind.u64 n5, Value.bool b6,
  Value.int IntKind.u64 (IntKind.wrap IntKind.u64 (IntKind.wrap IntKind.u64 (n7 * IntKind.wrap IntKind.u64 n1) + IntKind.wrap IntKind.u64 n8)), Value.slice p9 m10 m11, Value.int
  IntKind.i64 n12, Value.int IntKind.i64 (IntKind.wrap IntKind.i64 (n13 + 1))] h Q))))) : unitAt P f_strconv_ParseUint 46 [1, 8, 9, 10, 11, 12, 13, 16, 99, 100, 101] [Value.int IntKind.i64 n1,
  Value.bool b2, Value.string s3, Value.int IntKind.u64 n4, Value.int IntKind.u64 n5, Value.bool b6, Value.int IntKind.u64 n7, Value.int IntKind.u8 n8, Value.slice p9 m10 m11,
  Value.int IntKind.i64 n12, Value.int IntKind.i64 n13] h Q := unit_ok (n := 400) (ann := annOf [(21, [0, 1, 2, 8, 9]), (25, [0, 1, 2, 8, 9]), (32, [0, 1, 2, 8, 9, 10]), (36, [1,
  8, 9, 10, 11, 12, 13, 99, 100, 101]), (46, [1, 8, 9, 10, 11, 12, 13, 16, 99, 100, 101])]) (Eq.mp (by kernel_rfl) H)
theorem r_stringslite_Clone {s1 : ByteArray} {h : AW} {Q : Value → AW → Prop} (H : bC ((↑(ByteArray.size s1) : Int) == 0) (Q (Value.string (ByteArray.mk #[])) h) (oP (makeSliceV P h ty_sl_uint8
  (Value.int IntKind.i64 (↑(ByteArray.size s1) : Int)) (Value.int IntKind.i64 (↑(ByteArray.size s1) : Int))) fun v2 h3 => vSl v2 fun p4 m5 m6 => oP (copyB P h3 (Array.mk [ty_sl_uint8,
  ty_string]) [Value.slice p4 m5 m6, Value.string s1]) fun v7 h8 => vInt IntKind.i64 v7 fun n9 => aP p4 fun m10 m11 => oB (natIdx 0 m5) fun m12 => False)) : EvQ P f_stringslite_Clone [Value.string
  s1] h Q := fn_ok (n := 400) (ann := annOf []) (Eq.mp (by kernel_rfl) H)
theorem r_strconv_small {n1 : Int} {h : AW} {Q : Value → AW → Prop} (H : bC (decide (n1 < 10)) (oB (natBnd (IntKind.wrap IntKind.i64 (n1 + 1)) 36) fun m2 => oB (natBnd n1 m2) fun m3 => Q
  (Value.string (bSub (ByteArray.mk #[48, 49, 50, 51, 52, 53, 54, 55, 56, 57, 97, 98, 99, 100, 101, 102, 103, 104, 105, 106, 107, 108, 109, 110, 111, 112, 113, 114, 115, 116, 117,
  118, 119, 120, 121, 122]) m3 m2)) h) (oB (natBnd (IntKind.wrap IntKind.i64 (IntKind.wrap IntKind.i64 (n1 * 2) + 2)) 200) fun m4 => oB (natBnd (IntKind.wrap IntKind.i64 (n1 * 2))
  m4) fun m5 => Q (Value.string (bSub (ByteArray.mk (List.toArray (List.append (List.append [48, 48, 48, 49, 48, 50, 48, 51, 48, 52, 48, 53, 48, 54, 48, 55, 48, 56, 48, 57, 49, 48,
  49, 49, 49, 50, 49, 51, 49, 52, 49, 53, 49, 54, 49, 55, 49, 56, 49, 57, 50, 48, 50, 49, 50, 50, 50, 51, 50, 52] [50, 53, 50, 54, 50, 55, 50, 56, 50, 57, 51, 48, 51, 49, 51, 50,
  51, 51, 51, 52, 51, 53, 51, 54, 51, 55, 51, 56, 51, 57, 52, 48, 52, 49, 52, 50, 52, 51, 52, 52, 52, 53, 52, 54, 52, 55, 52, 56, 52, 57]) (List.append [53, 48, 53, 49, 53, 50, 53,
  51, 53, 52, 53, 53, 53, 54, 53, 55, 53, 56, 53, 57, 54, 48, 54, 49, 54, 50, 54, 51, 54, 52, 54, 53, 54, 54, 54, 55, 54, 56, 54, 57, 55, 48, 55, 49, 55, 50, 55, 51, 55, 52] [55,
  53, 55, 54, 55, 55, 55, 56, 55, 57, 56, 48, 56, 49, 56, 50, 56, 51, 56, 52, 56, 53, 56, 54, 56, 55, 56, 56, 56, 57, 57, 48, 57, 49, 57, 50, 57, 51, 57, 52, 57, 53, 57, 54, 57,
  55, 57, 56, 57, 57])))) m5 m4)) h)) : EvQ P f_strconv_small [Value.int IntKind.i64 n1] h Q := fn_ok (n := 400) (ann := annOf []) (Eq.mp (by kernel_rfl) H)
theorem r_strconv_numDigits {n1 : Int} {h : AW} {Q : Value → AW → Prop} (H : EvQ P f_math_bits_Len64 [Value.int IntKind.u64 n1] h fun v2 h3 => vInt IntKind.i64 v2 fun n4 => EvQ P f_strconv_log10Pow2 [Value.int
  IntKind.i64 n4] h3 fun v5 h6 => vInt IntKind.i64 v5 fun n7 => oB (natIdx n7 20) fun m8 => oB (AW.rd h6 2 (0 + m8 * 1)) fun v9 => vInt IntKind.u64 v9 fun n10 => EvQ P f_strconv_bool2_int
  [Value.bool (decide (n1 ≥ n10))] h6 fun v11 h12 => vInt IntKind.i64 v11 fun n13 => Q (Value.int IntKind.i64 (IntKind.wrap IntKind.i64 (n7 + n13))) h12) : EvQ P f_strconv_numDigits [Value.int
  IntKind.u64 n1] h Q := fn_ok (n := 400) (ann := annOf []) (Eq.mp (by kernel_rfl) H)
theorem r_strconv_formatBase10 {p1 : Option Addr} {m2 : Nat} {m3 : Nat} {n4 : Int} {h : AW} {Q : Value → AW → Prop} (H : unitAt P f_strconv_formatBase10 1 [0, 1, 4] [Value.slice p1 m2 m3, Value.int IntKind.u64
  n4, Value.int IntKind.i64 (↑m2 : Int)] h Q) : EvQ P f_strconv_formatBase10 [Value.slice p1 m2 m3, Value.int IntKind.u64 n4] h Q := fn_ok (n := 400) (ann := annOf [(1, [0, 1, 4]), (20, [0, 4,
  12]), (25, [0, 4, 12])]) (Eq.mp (by kernel_rfl) H)
theorem r_strconv_formatBase10_1 {p1 : Option Addr} {m2 : Nat} {m3 : Nat} {n4 : Int} {n5 : Int} {h : AW} {Q : Value → AW → Prop} (H : bC (decide (n5 ≥ 8)) (oB (natIdx (IntKind.wrap IntKind.u32
  (IntKind.wrap IntKind.u32 (Int.tmod (Int.tmod (IntKind.wrap IntKind.u32 (Int.tmod n4 100000000)) 10000) 100 * 2) + 1)) 200) fun m6 => oB (bAt (ByteArray.mk (List.toArray
  (List.append (List.append [48, 48, 48, 49, 48, 50, 48, 51, 48, 52, 48, 53, 48, 54, 48, 55, 48, 56, 48, 57, 49, 48, 49, 49, 49, 50, 49, 51, 49, 52, 49, 53, 49, 54, 49, 55, 49, 56,
  49, 57, 50, 48, 50, 49, 50, 50, 50, 51, 50, 52] [50, 53, 50, 54, 50, 55, 50, 56, 50, 57, 51, 48, 51, 49, 51, 50, 51, 51, 51, 52, 51, 53, 51, 54, 51, 55, 51, 56, 51, 57, 52, 48,
  52, 49, 52, 50, 52, 51, 52, 52, 52, 53, 52, 54, 52, 55, 52, 56, 52, 57]) (List.append [53, 48, 53, 49, 53, 50, 53, 51, 53, 52, 53, 53, 53, 54, 53, 55, 53, 56, 53, 57, 54, 48, 54,
  49, 54, 50, 54, 51, 54, 52, 54, 53, 54, 54, 54, 55, 54, 56, 54, 57, 55, 48, 55, 49, 55, 50, 55, 51, 55, 52] [55, 53, 55, 54, 55, 55, 55, 56, 55, 57, 56, 48, 56, 49, 56, 50, 56,
  51, 56, 52, 56, 53, 56, 54, 56, 55, 56, 56, 56, 57, 57, 48, 57, 49, 57, 50, 57, 51, 57, 52, 57, 53, 57, 54, 57, 55, 57, 56, 57, 57])))) m6) fun n7 => oB (natIdx (IntKind.wrap
  IntKind.u32 (Int.tmod (Int.tmod (IntKind.wrap IntKind.u32 (Int.tmod n4 100000000)) 10000) 100 * 2)) 200) fun m8 => oB (bAt (ByteArray.mk (List.toArray (List.append (List.append
  [48, 48, 48, 49, 48, 50, 48, 51, 48, 52, 48, 53, 48, 54, 48, 55, 48, 56, 48, 57, 49, 48, 49, 49, 49, 50, 49, 51, 49, 52, 49, 53, 49, 54, 49, 55, 49, 56, 49, 57, 50, 48, 50, 49,
  50, 50, 50, 51, 50, 52] [50, 53, 50, 54, 50, 55, 50, 56, 50, 57, 51, 48, 51, 49, 51, 50, 51, 51, 51, 52, 51, 53, 51, 54, 51, 55, 51, 56, 51, 57, 52, 48, 52, 49, 52, 50, 52, 51,
  52, 52, 52, 53, 52, 54, 52, 55, 52, 56, 52, 57]) (List.append [53, 48, 53, 49, 53, 50, 53, 51, 53, 52, 53, 53, 53, 54, 53, 55, 53, 56, 53, 57, 54, 48, 54, 49, 54, 50, 54, 51, 54,
  52, 54, 53, 54, 54, 54, 55, 54, 56, 54, 57, 55, 48, 55, 49, 55, 50, 55, 51, 55, 52] [55, 53, 55, 54, 55, 55, 55, 56, 55, 57, 56, 48, 56, 49, 56, 50, 56, 51, 56, 52, 56, 53, 56,
  54, 56, 55, 56, 56, 56, 57, 57, 48, 57, 49, 57, 50, 57, 51, 57, 52, 57, 53, 57, 54, 57, 55, 57, 56, 57, 57])))) m8) fun n9 => aP p1 fun m10 m11 => oB (natIdx (IntKind.wrap
  IntKind.i64 (n5 - 1)) m2) fun m12 => oB (AW.wr h m10 (m11 + m12 * 1) (Value.int IntKind.u8 n7)) fun h13 => aP p1 fun m14 m15 => oB (natIdx (IntKind.wrap IntKind.i64 (n5 - 2)) m2)
  fun m16 => oB (AW.wr h13 m14 (m15 + m16 * 1) (Value.int IntKind.u8 n9)) fun h17 => oB (natIdx (IntKind.wrap IntKind.u32 (IntKind.wrap IntKind.u32 (IntKind.wrap IntKind.u32
  (Int.tdiv (Int.tmod (IntKind.wrap IntKind.u32 (Int.tmod n4 100000000)) 10000) 100) * 2) + 1)) 200) fun m18 => oB (bAt (ByteArray.mk (List.toArray (List.append (List.append [48,
  48, 48, 49, 48, 50, 48, 51, 48, 52, 48, 53, 48, 54, 48, 55, 48, 56, 48, 57, 49, 48, 49, 49, 49, 50, 49, 51, 49, 52, 49, 53, 49, 54, 49, 55, 49, 56, 49, 57, 50, 48, 50, 49, 50,
  50, 50, 51, 50, 52] [50, 53, 50, 54, 50, 55, 50, 56, 50, 57, 51, 48, 51, 49, 51, 50, 51, 51, 51, 52, 51, 53, 51, 54, 51, 55, 51, 56, 51, 57, 52, 48, 52, 49, 52, 50, 52, 51, 52,
  52, 52, 53, 52, 54, 52, 55, 52, 56, 52, 57]) (List.append [53, 48, 53, 49, 53, 50, 53, 51, 53, 52, 53, 53, 53, 54, 53, 55, 53, 56, 53, 57, 54, 48, 54, 49, 54, 50, 54, 51, 54, 52,
  54, 53, 54, 54, 54, 55, 54, 56, 54, 57, 55, 48, 55, 49, 55, 50, 55, 51, 55, 52] [55, 53, 55, 54, 55, 55, 55, 56, 55, 57, 56, 48, 56, 49, 56, 50, 56, 51, 56, 52, 56, 53, 56, 54,
  56, 55, 56, 56, 56, 57, 57, 48, 57, 49, 57, 50, 57, 51, 57, 52, 57, 53, 57, 54, 57, 55, 57, 56, 57, 57])))) m18) fun n19 => oB (natIdx (IntKind.wrap IntKind.u32 (IntKind.wrap
  IntKind.u32 (Int.tdiv (Int.tmod (IntKind.wrap IntKind.u32 (Int.tmod n4 100000000)) 10000) 100) * 2)) 200) fun m20 => oB (bAt (ByteArray.mk (List.toArray (List.append (List.append
  [48, 48, 48, 49, 48, 50, 48, 51, 48, 52, 48, 53, 48, 54, 48, 55, 48, 56, 48, 57, 49, 48, 49, 49, 49, 50, 49, 51, 49, 52, 49, 53, 49, 54, 49, 55, 49, 56, 49, 57, 50, 48, 50, 49,
  50, 50, 50, 51, 50, 52] [50, 53, 50, 54, 50, 55, 50, 56, 50, 57, 51, 48, 51, 49, 51, 50, 51, 51, 51, 52, 51, 53, 51, 54, 51, 55, 51, 56, 51, 57, 52, 48, 52, 49, 52, 50, 52, 51,
  52, 52, 52, 53, 52, 54, 52, 55, 52, 56, 52, 57]) (List.append [53, 48, 53, 49, 53, 50, 53, 51, 53, 52, 53, 53, 53, 54, 53, 55, 53, 56, 53, 57, 54, 48, 54, 49, 54, 50, 54, 51, 54,
  52, 54, 53, 54, 54, 54, 55, 54, 56, 54, 57, 55, 48, 55, 49, 55, 50, 55, 51, 55, 52] [55, 53, 55, 54, 55, 55, 55, 56, 55, 57, 56, 48, 56, 49, 56, 50, 56, 51, 56, 52, 56, 53, 56,
  54, 56, 55, 56, 56, 56, 57, 57, 48, 57, 49, 57, 50, 57, 51, 57, 52, 57, 53, 57, 54, 57, 55, 57, 56, 57, 57])))) m20) fun n21 => aP p1 fun m22 m23 => oB (natIdx (IntKind.wrap
  IntKind.i64 (n5 - 3)) m2) fun m24 => oB (AW.wr h17 m22 (m23 + m24 * 1) (Value.int IntKind.u8 n19)) fun h25 => aP p1 fun m26 m27 => oB (natIdx (IntKind.wrap IntKind.i64 (n5 - 4))
  m2) fun m28 => oB (AW.wr h25 m26 (m27 + m28 * 1) (Value.int IntKind.u8 n21)) fun h29 => oB (natIdx (IntKind.wrap IntKind.u32 (IntKind.wrap IntKind.u32 (Int.tmod (IntKind.wrap
  IntKind.u32 (Int.tdiv (IntKind.wrap IntKind.u32 (Int.tmod n4 100000000)) 10000)) 100 * 2) + 1)) 200) fun m30 => oB (bAt (ByteArray.mk (List.toArray (List.append (List.append [48,
  48, 48, 49, 48, 50, 48, 51, 48, 52, 48, 53, 48, 54, 48, 55, 48, 56, 48, 57, 49, 48, 49, 49, 49, 50, 49, 51, 49, 52, 49, 53, 49, 54, 49, 55, 49, 56, 49, 57, 50, 48, 50, 49, 50,
  50, 50, 51, 50, 52] [50, 53, 50, 54, 50, 55, 50, 56, 50, 57, 51, 48, 51, 49, 51, 50, 51, 51, 51, 52, 51, 53, 51, 54, 51, 55, 51, 56, 51, 57, 52, 48, 52, 49, 52, 50, 52, 51, 52,
  52, 52, 53, 52, 54, 52, 55, 52, 56, 52, 57]) (List.append [53, 48, 53, 49, 53, 50, 53, 51, 53, 52, 53, 53, 53, 54, 53, 55, 53, 56, 53, 57, 54, 48, 54, 49, 54, 50, 54, 51, 54, 52,
  54, 53, 54, 54, 54, 55, 54, 56, 54, 57, 55, 48, 55, 49, 55, 50, 55, 51, 55, 52] [55, 53, 55, 54, 55, 55, 55, 56, 55, 57, 56, 48, 56, 49, 56, 50, 56, 51, 56, 52, 56, 53, 56, 54,
  56, 55, 56, 56, 56, 57, 57, 48, 57, 49, 57, 50, 57, 51, 57, 52, 57, 53, 57, 54, 57, 55, 57, 56, 57, 57])))) m30) fun n31 => oB (natIdx (IntKind.wrap IntKind.u32 (Int.tmod
  (IntKind.wrap IntKind.u32 (Int.tdiv (IntKind.wrap IntKind.u32 (Int.tmod n4 100000000)) 10000)) 100 * 2)) 200) fun m32 => oB (bAt (ByteArray.mk (List.toArray (List.append
  (List.append [48, 48, 48, 49, 48, 50, 48, 51, 48, 52, 48, 53, 48, 54, 48, 55, 48, 56, 48, 57, 49, 48, 49, 49, 49, 50, 49, 51, 49, 52, 49, 53, 49, 54, 49, 55, 49, 56, 49, 57, 50,
  48, 50, 49, 50, 50, 50, 51, 50, 52] [50, 53, 50, 54, 50, 55, 50, 56, 50, 57, 51, 48, 51, 49, 51, 50, 51, 51, 51, 52, 51, 53, 51, 54, 51, 55, 51, 56, 51, 57, 52, 48, 52, 49, 52,
  50, 52, 51, 52, 52, 52, 53, 52, 54, 52, 55, 52, 56, 52, 57]) (List.append [53, 48, 53, 49, 53, 50, 53, 51, 53, 52, 53, 53, 53, 54, 53, 55, 53, 56, 53, 57, 54, 48, 54, 49, 54, 50,
  54, 51, 54, 52, 54, 53, 54, 54, 54, 55, 54, 56, 54, 57, 55, 48, 55, 49, 55, 50, 55, 51, 55, 52] [55, 53, 55, 54, 55, 55, 55, 56, 55, 57, 56, 48, 56, 49, 56, 50, 56, 51, 56, 52,
  56, 53, 56, 54, 56, 55, 56, 56, 56, 57, 57, 48, 57, 49, 57, 50, 57, 51, 57, 52, 57, 53, 57, 54, 57, 55, 57, 56, 57, 57])))) m32) fun n33 => aP p1 fun m34 m35 => oB (natIdx
  (IntKind.wrap IntKind.i64 (n5 - 5)) m2) fun m36 => oB (AW.wr h29 m34 (m35 + m36 * 1) (Value.int IntKind.u8 n31)) fun h37 => aP p1 fun m38 m39 => oB (natIdx (IntKind.wrap
  IntKind.i64 (n5 - 6)) m2) fun m40 => oB (AW.wr h37 m38 (m39 + m40 * 1) (Value.int IntKind.u8 n33)) fun h41 => oB (natIdx (IntKind.wrap IntKind.u32 (IntKind.wrap IntKind.u32
  (IntKind.wrap IntKind.u32 (Int.tdiv (IntKind.wrap IntKind.u32 (Int.tdiv (IntKind.wrap IntKind.u32 (Int.tmod n4 100000000)) 10000)) 100) * 2) + 1)) 200) fun m42 => oB (bAt
  (ByteArray.mk (List.toArray (List.append (List.append [48, 48, 48, 49, 48, 50, 48, 51, 48, 52, 48, 53, 48, 54, 48, 55, 48, 56, 48, 57, 49, 48, 49, 49, 49, 50, 49, 51, 49, 52, 49,
  53, 49, 54, 49, 55, 49, 56, 49, 57, 50, 48, 50, 49, 50, 50, 50, 51, 50, 52] [50, 53, 50, 54, 50, 55, 50, 56, 50, 57, 51, 48, 51, 49, 51, 50, 51, 51, 51, 52, 51, 53, 51, 54, 51,
  55, 51, 56, 51, 57, 52, 48, 52, 49, 52, 50, 52, 51, 52, 52, 52, 53, 52, 54, 52, 55, 52, 56, 52, 57]) (List.append [53, 48, 53, 49, 53, 50, 53, 51, 53, 52, 53, 53, 53, 54, 53, 55,
  53, 56, 53, 57, 54, 48, 54, 49, 54, 50, 54, 51, 54, 52, 54, 53, 54, 54, 54, 55, 54, 56, 54, 57, 55, 48, 55, 49, 55, 50, 55, 51, 55, 52] [55, 53, 55, 54, 55, 55, 55, 56, 55, 57,
  56, 48, 56, 49, 56, 50, 56, 51, 56, 52, 56, 53, 56, 54, 56, 55, 56, 56, 56, 57, 57, 48, 57, 49, 57, 50, 57, 51, 57, 52, 57, 53, 57, 54, 57, 55, 57, 56, 57, 57])))) m42) fun n43
  => oB (natIdx (IntKind.wrap IntKind.u32 (IntKind.wrap IntKind.u32 (Int.tdiv (IntKind.wrap IntKind.u32 (Int.tdiv (IntKind.wrap IntKind.u32 (Int.tmod n4 100000000)) 10000)) 100) *
  2)) 200) fun m44 => oB (bAt (ByteArray.mk (List.toArray (List.append (List.append [48, 48, 48, 49, 48, 50, 48, 51, 48, 52, 48, 53, 48, 54, 48, 55, 48, 56, 48, 57, 49, 48, 49, 49,
  49, 50, 49, 51, 49, 52, 49, 53, 49, 54, 49, 55, 49, 56, 49, 57, 50, 48, 50, 49, 50, 50, 50, 51, 50, 52] [50, 53, 50, 54, 50, 55, 50, 56, 50, 57, 51, 48, 51, 49, 51, 50, 51, 51,
  51, 52, 51, 53, 51, 54, 51, 55, 51, 56, 51, 57, 52, 48, 52, 49, 52, 50, 52, 51, 52, 52, 52, 53, 52, 54, 52, 55, 52, 56, 52, 57]) (List.append [53, 48, 53, 49, 53, 50, 53, 51, 53,
  52, 53, 53, 53, 54, 53, 55, 53, 56, 53, 57, 54, 48, 54, 49, 54, 50, 54, 51, 54, 52, 54, 53, 54, 54, 54, 55, 54, 56, 54, 57, 55, 48, 55, 49, 55, 50, 55, 51, 55, 52] [55, 53, 55,
  54, 55, 55, 55, 56, 55, 57, 56, 48, 56, 49, 56, 50, 56, 51, 56, 52, 56, 53, 56, 54, 56, 55, 56, 56, 56, 57, 57, 48, 57, 49, 57, 50, 57, 51, 57, 52, 57, 53, 57, 54, 57, 55, 57,
  56, 57, 57])))) m44) fun n45 => aP p1 fun m46 m47 => oB (natIdx (IntKind.wrap IntKind.i64 (n5 - 7)) m2) fun m48 => oB (AW.wr h41 m46 (m47 + m48 * 1) (Value.int IntKind.u8 n43))
  fun h49 => aP p1 fun m50 m51 => oB (natIdx (IntKind.wrap IntKind.i64 (n5 - 8)) m2) fun m52 => oB (AW.wr h49 m50 (m51 + m52 * 1) (Value.int IntKind.u8 n45)) fun h53 => unitAt P
  f_strconv_formatBase10 1 [0, 1, 4] [Value.slice p1 m2 m3, Value.int IntKind.u64 (IntKind.wrap IntKind.u64 (Int.tdiv n4 100000000)), Value.int IntKind.i64 (IntKind.wrap IntKind.i64 (n5 - 8))] h53
  Q) (bC (decide (n5 ≥ 4)) (oB (natIdx (IntKind.wrap IntKind.u32 (IntKind.wrap IntKind.u32 (Int.tmod (Int.tmod (IntKind.wrap IntKind.u32 n4) 10000) 100 * 2) + 1)) 200) fun m54 =>
  oB (bAt (ByteArray.mk (List.toArray (List.append (List.append [48, 48, 48, 49, 48, 50, 48, 51, 48, 52, 48, 53, 48, 54, 48, 55, 48, 56, 48, 57, 49, 48, 49, 49, 49, 50, 49, 51, 49,
  52, 49, 53, 49, 54, 49, 55, 49, 56, 49, 57, 50, 48, 50, 49, 50, 50, 50, 51, 50, 52] [50, 53, 50, 54, 50, 55, 50, 56, 50, 57, 51, 48, 51, 49, 51, 50, 51, 51, 51, 52, 51, 53, 51,
  54, 51, 55, 51, 56, 51, 57, 52, 48, 52, 49, 52, 50, 52, 51, 52, 52, 52, 53, 52, 54, 52, 55, 52, 56, 52, 57]) (List.append [53, 48, 53, 49, 53, 50, 53, 51, 53, 52, 53, 53, 53, 54,
  53, 55, 53, 56, 53, 57, 54, 48, 54, 49, 54, 50, 54, 51, 54, 52, 54, 53, 54, 54, 54, 55, 54, 56, 54, 57, 55, 48, 55, 49, 55, 50, 55, 51, 55, 52] [55, 53, 55, 54, 55, 55, 55, 56,
  55, 57, 56, 48, 56, 49, 56, 50, 56, 51, 56, 52, 56, 53, 56, 54, 56, 55, 56, 56, 56, 57, 57, 48, 57, 49, 57, 50, 57, 51, 57, 52, 57, 53, 57, 54, 57, 55, 57, 56, 57, 57])))) m54)
  fun n55 => oB (natIdx (IntKind.wrap IntKind.u32 (Int.tmod (Int.tmod (IntKind.wrap IntKind.u32 n4) 10000) 100 * 2)) 200) fun m56 => oB (bAt (ByteArray.mk (List.toArray
  (List.append (List.append [48, 48, 48, 49, 48, 50, 48, 51, 48, 52, 48, 53, 48, 54, 48, 55, 48, 56, 48, 57, 49, 48, 49, 49, 49, 50, 49, 51, 49, 52, 49, 53, 49, 54, 49, 55, 49, 56,
  49, 57, 50, 48, 50, 49, 50, 50, 50, 51, 50, 52] [50, 53, 50, 54, 50, 55, 50, 56, 50, 57, 51, 48, 51, 49, 51, 50, 51, 51, 51, 52, 51, 53, 51, 54, 51, 55, 51, 56, 51, 57, 52, 48,
  52, 49, 52, 50, 52, 51, 52, 52, 52, 53, 52, 54, 52, 55, 52, 56, 52, 57]) (List.append [53, 48, 53, 49, 53, 50, 53, 51, 53, 52, 53, 53, 53, 54, 53, 55, 53, 56, 53, 57, 54, 48, 54,
  49, 54, 50, 54, 51, 54, 52, 54, 53, 54, 54, 54, 55, 54, 56, 54, 57, 55, 48, 55, 49, 55, 50, 55, 51, 55, 52] [55, 53, 55, 54, 55, 55, 55, 56, 55, 57, 56, 48, 56, 49, 56, 50, 56,
  51, 56, 52, 56, 53, 56, 54, 56, 55, 56, 56, 56, 57, 57, 48, 57, 49, 57, 50, 57, 51, 57, 52, 57, 53, 57, 54, 57, 55, 57, 56, 57, 57])))) m56) fun n57 => aP p1 fun m58 m59 => oB
  (natIdx (IntKind.wrap IntKind.i64 (n5 - 1)) m2) fun m60 => oB (AW.wr h m58 (m59 + m60 * 1) (Value.int IntKind.u8 n55)) fun h61 => aP p1 fun m62 m63 => oB (natIdx (IntKind.wrap
  IntKind.i64 (n5 - 2)) m2) fun m64 => oB (AW.wr h61 m62 (m63 + m64 * 1) (Value.int IntKind.u8 n57)) fun h65 => oB (natIdx (IntKind.wrap IntKind.u32 (IntKind.wrap IntKind.u32
  (IntKind.wrap IntKind.u32 (Int.tdiv (Int.tmod (IntKind.wrap IntKind.u32 n4) 10000) 100) * 2) + 1)) 200) fun m66 => oB (bAt (ByteArray.mk (List.toArray (List.append (List.append
  [48, 48, 48, 49, 48, 50, 48, 51, 48, 52, 48, 53, 48, 54, 48, 55, 48, 56, 48, 57, 49, 48, 49, 49, 49, 50, 49, 51, 49, 52, 49, 53, 49, 54, 49, 55, 49, 56, 49, 57, 50, 48, 50, 49,
  50, 50, 50, 51, 50, 52] [50, 53, 50, 54, 50, 55, 50, 56, 50, 57, 51, 48, 51, 49, 51, 50, 51, 51, 51, 52, 51, 53, 51, 54, 51, 55, 51, 56, 51, 57, 52, 48, 52, 49, 52, 50, 52, 51,
  52, 52, 52, 53, 52, 54, 52, 55, 52, 56, 52, 57]) (List.append [53, 48, 53, 49, 53, 50, 53, 51, 53, 52, 53, 53, 53, 54, 53, 55, 53, 56, 53, 57, 54, 48, 54, 49, 54, 50, 54, 51, 54,
  52, 54, 53, 54, 54, 54, 55, 54, 56, 54, 57, 55, 48, 55, 49, 55, 50, 55, 51, 55, 52] [55, 53, 55, 54, 55, 55, 55, 56, 55, 57, 56, 48, 56, 49, 56, 50, 56, 51, 56, 52, 56, 53, 56,
  54, 56, 55, 56, 56, 56, 57, 57, 48, 57, 49, 57, 50, 57, 51, 57, 52, 57, 53, 57, 54, 57, 55, 57, 56, 57, 57])))) m66) fun n67 => oB (natIdx (IntKind.wrap IntKind.u32 (IntKind.wrap
  IntKind.u32 (Int.tdiv (Int.tmod (IntKind.wrap IntKind.u32 n4) 10000) 100) * 2)) 200) fun m68 => oB (bAt (ByteArray.mk (List.toArray (List.append (List.append [48, 48, 48, 49, 48,
  50, 48, 51, 48, 52, 48, 53, 48, 54, 48, 55, 48, 56, 48, 57, 49, 48, 49, 49, 49, 50, 49, 51, 49, 52, 49, 53, 49, 54, 49, 55, 49, 56, 49, 57, 50, 48, 50, 49, 50, 50, 50, 51, 50,
  52] [50, 53, 50, 54, 50, 55, 50, 56, 50, 57, 51, 48, 51, 49, 51, 50, 51, 51, 51, 52, 51, 53, 51, 54, 51, 55, 51, 56, 51, 57, 52, 48, 52, 49, 52, 50, 52, 51, 52, 52, 52, 53, 52,
  54, 52, 55, 52, 56, 52, 57]) (List.append [53, 48, 53, 49, 53, 50, 53, 51, 53, 52, 53, 53, 53, 54, 53, 55, 53, 56, 53, 57, 54, 48, 54, 49, 54, 50, 54, 51, 54, 52, 54, 53, 54, 54,
  54, 55, 54, 56, 54, 57, 55, 48, 55, 49, 55, 50, 55, 51, 55, 52] [55, 53, 55, 54, 55, 55, 55, 56, 55, 57, 56, 48, 56, 49, 56, 50, 56, 51, 56, 52, 56, 53, 56, 54, 56, 55, 56, 56,
  56, 57, 57, 48, 57, 49, 57, 50, 57, 51, 57, 52, 57, 53, 57, 54, 57, 55, 57, 56, 57, 57])))) m68) fun n69 => aP p1 fun m70 m71 => oB (natIdx (IntKind.wrap IntKind.i64 (n5 - 3))
  m2) fun m72 => oB (AW.wr h65 m70 (m71 + m72 * 1) (Value.int IntKind.u8 n67)) fun h73 => aP p1 fun m74 m75 => oB (natIdx (IntKind.wrap IntKind.i64 (n5 - 4)) m2) fun m76 => oB
  (AW.wr h73 m74 (m75 + m76 * 1) (Value.int IntKind.u8 n69)) fun h77 => unitAt P f_strconv_formatBase10 20 [0, 4, 12] [Value.slice p1 m2 m3, Value.int IntKind.i64 (IntKind.wrap IntKind.i64 (n5 -
  4)), Value.int IntKind.u32 (IntKind.wrap IntKind.u32 (Int.tdiv (IntKind.wrap IntKind.u32 n4) 10000))] h77 Q) (unitAt P f_strconv_formatBase10 20 [0, 4, 12] [Value.slice p1 m2 m3, Value.int
  IntKind.i64 n5, Value.int IntKind.u32 (IntKind.wrap IntKind.u32 n4)] h Q))) : unitAt P f_strconv_formatBase10 1 [0, 1, 4] [Value.slice p1 m2 m3, Value.int IntKind.u64 n4, Value.int IntKind.i64
  n5] h Q := unit_ok (n := 400) (ann := annOf [(1, [0, 1, 4]), (20, [0, 4, 12]), (25, [0, 4, 12])]) (Eq.mp (by kernel_rfl) H)
theorem r_strconv_formatBase10_20 {p1 : Option Addr} {m2 : Nat} {m3 : Nat} {n4 : Int} {n5 : Int} {h : AW} {Q : Value → AW → Prop} (H : bC (decide (n4 ≥ 2)) (oB (natIdx (IntKind.wrap IntKind.u32
  (IntKind.wrap IntKind.u32 (Int.tmod n5 100 * 2) + 1)) 200) fun m6 => oB (bAt (ByteArray.mk (List.toArray (List.append (List.append [48, 48, 48, 49, 48, 50, 48, 51, 48, 52, 48,
  53, 48, 54, 48, 55, 48, 56, 48, 57, 49, 48, 49, 49, 49, 50, 49, 51, 49, 52, 49, 53, 49, 54, 49, 55, 49, 56, 49, 57, 50, 48, 50, 49, 50, 50, 50, 51, 50, 52] [50, 53, 50, 54, 50,
  55, 50, 56, 50, 57, 51, 48, 51, 49, 51, 50, 51, 51, 51, 52, 51, 53, 51, 54, 51, 55, 51, 56, 51, 57, 52, 48, 52, 49, 52, 50, 52, 51, 52, 52, 52, 53, 52, 54, 52, 55, 52, 56, 52,
  57]) (List.append [53, 48, 53, 49, 53, 50, 53, 51, 53, 52, 53, 53, 53, 54, 53, 55, 53, 56, 53, 57, 54, 48, 54, 49, 54, 50, 54, 51, 54, 52, 54, 53, 54, 54, 54, 55, 54, 56, 54, 57,
  55, 48, 55, 49, 55, 50, 55, 51, 55, 52] [55, 53, 55, 54, 55, 55, 55, 56, 55, 57, 56, 48, 56, 49, 56, 50, 56, 51, 56, 52, 56, 53, 56, 54, 56, 55, 56, 56, 56, 57, 57, 48, 57, 49,
  57, 50, 57, 51, 57, 52, 57, 53, 57, 54, 57, 55, 57, 56, 57, 57])))) m6) fun n7 => oB (natIdx (IntKind.wrap IntKind.u32 (Int.tmod n5 100 * 2)) 200) fun m8 => oB (bAt (ByteArray.mk
  (List.toArray (List.append (List.append [48, 48, 48, 49, 48, 50, 48, 51, 48, 52, 48, 53, 48, 54, 48, 55, 48, 56, 48, 57, 49, 48, 49, 49, 49, 50, 49, 51, 49, 52, 49, 53, 49, 54,
  49, 55, 49, 56, 49, 57, 50, 48, 50, 49, 50, 50, 50, 51, 50, 52] [50, 53, 50, 54, 50, 55, 50, 56, 50, 57, 51, 48, 51, 49, 51, 50, 51, 51, 51, 52, 51, 53, 51, 54, 51, 55, 51, 56,
  51, 57, 52, 48, 52, 49, 52, 50, 52, 51, 52, 52, 52, 53, 52, 54, 52, 55, 52, 56, 52, 57]) (List.append [53, 48, 53, 49, 53, 50, 53, 51, 53, 52, 53, 53, 53, 54, 53, 55, 53, 56, 53,
  57, 54, 48, 54, 49, 54, 50, 54, 51, 54, 52, 54, 53, 54, 54, 54, 55, 54, 56, 54, 57, 55, 48, 55, 49, 55, 50, 55, 51, 55, 52] [55, 53, 55, 54, 55, 55, 55, 56, 55, 57, 56, 48, 56,
  49, 56, 50, 56, 51, 56, 52, 56, 53, 56, 54, 56, 55, 56, 56, 56, 57, 57, 48, 57, 49, 57, 50, 57, 51, 57, 52, 57, 53, 57, 54, 57, 55, 57, 56, 57, 57])))) m8) fun n9 => aP p1 fun
  m10 m11 => oB (natIdx (IntKind.wrap IntKind.i64 (n4 - 1)) m2) fun m12 => oB (AW.wr h m10 (m11 + m12 * 1) (Value.int IntKind.u8 n7)) fun h13 => aP p1 fun m14 m15 => oB (natIdx
  (IntKind.wrap IntKind.i64 (n4 - 2)) m2) fun m16 => oB (AW.wr h13 m14 (m15 + m16 * 1) (Value.int IntKind.u8 n9)) fun h17 => unitAt P f_strconv_formatBase10 25 [0, 4, 12] [Value.slice p1 m2 m3,
  Value.int IntKind.i64 (IntKind.wrap IntKind.i64 (n4 - 2)), Value.int IntKind.u32 (IntKind.wrap IntKind.u32 (Int.tdiv n5 100))] h17 Q) (unitAt P f_strconv_formatBase10 25 [0, 4, 12] [Value.slice
  p1 m2 m3, Value.int IntKind.i64 n4, Value.int IntKind.u32 n5] h Q)) : unitAt P f_strconv_formatBase10 20 [0, 4, 12] [Value.slice p1 m2 m3, Value.int IntKind.i64 n4, Value.int IntKind.u32 n5] h Q
  := unit_ok (n := 400) (ann := annOf [(1, [0, 1, 4]), (20, [0, 4, 12]), (25, [0, 4, 12])]) (Eq.mp (by kernel_rfl) H)
theorem r_strconv_formatBase10_25 {p1 : Option Addr} {m2 : Nat} {m3 : Nat} {n4 : Int} {n5 : Int} {h : AW} {Q : Value → AW → Prop} (H : bC (decide (n4 > 0)) (aP p1 fun m6 m7 => oB (natIdx 0 m2)
  fun m8 => oB (AW.wr h m6 (m7 + m8 * 1) (Value.int IntKind.u8 (IntKind.wrap IntKind.u8 (IntKind.wrap IntKind.u32 (48 + n5))))) fun h9 => Q (Value.tuple (Array.mk [])) h9) (Q
  (Value.tuple (Array.mk [])) h)) : unitAt P f_strconv_formatBase10 25 [0, 4, 12] [Value.slice p1 m2 m3, Value.int IntKind.i64 n4, Value.int IntKind.u32 n5] h Q := unit_ok (n := 400) (ann := annOf
  [(1, [0, 1, 4]), (20, [0, 4, 12]), (25, [0, 4, 12])]) (Eq.mp (by kernel_rfl) H)
theorem r_strconv_lower {n1 : Int} {h : AW} {Q : Value → AW → Prop} (H : Q (Value.int IntKind.u8 (IntKind.wrap IntKind.u8 (↑(BitVec.toNat (BitVec.ofInt (IntKind.bits IntKind.u8) n1 |||
  BitVec.ofInt (IntKind.bits IntKind.u8) 32)) : Int))) h) : EvQ P f_strconv_lower [Value.int IntKind.u8 n1] h Q := fn_ok (n := 400) (ann := annOf []) (Eq.mp (by kernel_rfl) H)
theorem r_strconv_log10Pow2 {n1 : Int} {h : AW} {Q : Value → AW → Prop} (H : Q (Value.int IntKind.i64 (Int.fdiv (IntKind.wrap IntKind.i64 (n1 * 78913)) 262144)) h) : EvQ P f_strconv_log10Pow2 [Value.int
  IntKind.i64 n1] h Q := fn_ok (n := 400) (ann := annOf []) (Eq.mp (by kernel_rfl) H)
theorem r_math_bits_Len64 {n1 : Int} {h : AW} {Q : Value → AW → Prop} (H : bC (decide (n1 ≥ 4294967296)) (unitAt P f_math_bits_Len64 4 [0, 2] [Value.int IntKind.u64 (Int.fdiv n1 4294967296), Value.int
  IntKind.i64 32] h Q) (unitAt P f_math_bits_Len64 4 [0, 2] [Value.int IntKind.u64 n1, Value.int IntKind.i64 0] h Q)) : EvQ P f_math_bits_Len64 [Value.int IntKind.u64 n1] h Q := fn_ok (n := 400) (ann :=
  annOf [(4, [0, 2]), (7, [0, 2])]) (Eq.mp (by kernel_rfl) H)
theorem r_math_bits_Len64_4 {n1 : Int} {n2 : Int} {h : AW} {Q : Value → AW → Prop} (H : bC (decide (n1 ≥ 65536)) (unitAt P f_math_bits_Len64 7 [0, 2] [Value.int IntKind.u64 (Int.fdiv n1 65536),
  Value.int IntKind.i64 (IntKind.wrap IntKind.i64 (n2 + 16))] h Q) (unitAt P f_math_bits_Len64 7 [0, 2] [Value.int IntKind.u64 n1, Value.int IntKind.i64 n2] h Q)) : unitAt P f_math_bits_Len64 4 [0, 2]
  [Value.int IntKind.u64 n1, Value.int IntKind.i64 n2] h Q := unit_ok (n := 400) (ann := annOf [(4, [0, 2]), (7, [0, 2])]) (Eq.mp (by kernel_rfl) H)
theorem r_math_bits_Len64_7 {n1 : Int} {n2 : Int} {h : AW} {Q : Value → AW → Prop} (H : bC (decide (n1 ≥ 256)) (oB (natIdx (IntKind.wrap IntKind.u8 (Int.fdiv n1 256)) 256) fun m3 => oB (bAt
  (ByteArray.mk (List.toArray (List.append (List.append [0, 1, 2, 2, 3, 3, 3, 3, 4, 4, 4, 4, 4, 4, 4, 4, 5, 5, 5, 5, 5, 5, 5, 5, 5, 5, 5, 5, 5, 5, 5, 5, 6, 6, 6, 6, 6, 6, 6, 6, 6,
  6, 6, 6, 6, 6, 6, 6, 6, 6, 6, 6, 6, 6, 6, 6, 6, 6, 6, 6, 6, 6, 6, 6] [7, 7, 7, 7, 7, 7, 7, 7, 7, 7, 7, 7, 7, 7, 7, 7, 7, 7, 7, 7, 7, 7, 7, 7, 7, 7, 7, 7, 7, 7, 7, 7, 7, 7, 7, 7,
  7, 7, 7, 7, 7, 7, 7, 7, 7, 7, 7, 7, 7, 7, 7, 7, 7, 7, 7, 7, 7, 7, 7, 7, 7, 7, 7, 7]) (List.append [8, 8, 8, 8, 8, 8, 8, 8, 8, 8, 8, 8, 8, 8, 8, 8, 8, 8, 8, 8, 8, 8, 8, 8, 8, 8,
  8, 8, 8, 8, 8, 8, 8, 8, 8, 8, 8, 8, 8, 8, 8, 8, 8, 8, 8, 8, 8, 8, 8, 8, 8, 8, 8, 8, 8, 8, 8, 8, 8, 8, 8, 8, 8, 8] [8, 8, 8, 8, 8, 8, 8, 8, 8, 8, 8, 8, 8, 8, 8, 8, 8, 8, 8, 8, 8,
  8, 8, 8, 8, 8, 8, 8, 8, 8, 8, 8, 8, 8, 8, 8, 8, 8, 8, 8, 8, 8, 8, 8, 8, 8, 8, 8, 8, 8, 8, 8, 8, 8, 8, 8, 8, 8, 8, 8, 8, 8, 8, 8])))) m3) fun n4 => Q (Value.int IntKind.i64
  (IntKind.wrap IntKind.i64 (IntKind.wrap IntKind.i64 (n2 + 8) + IntKind.wrap IntKind.i64 n4))) h) (oB (natIdx (IntKind.wrap IntKind.u8 n1) 256) fun m5 => oB (bAt (ByteArray.mk
  (List.toArray (List.append (List.append [0, 1, 2, 2, 3, 3, 3, 3, 4, 4, 4, 4, 4, 4, 4, 4, 5, 5, 5, 5, 5, 5, 5, 5, 5, 5, 5, 5, 5, 5, 5, 5, 6, 6, 6, 6, 6, 6, 6, 6, 6, 6, 6, 6, 6, 6,
  6, 6, 6, 6, 6, 6, 6, 6, 6, 6, 6, 6, 6, 6, 6, 6, 6, 6] [7, 7, 7, 7, 7, 7, 7, 7, 7, 7, 7, 7, 7, 7, 7, 7, 7, 7, 7, 7, 7, 7, 7, 7, 7, 7, 7, 7, 7, 7, 7, 7, 7, 7, 7, 7, 7, 7, 7, 7, 7,
  7, 7, 7, 7, 7, 7, 7, 7, 7, 7, 7, 7, 7, 7, 7, 7, 7, 7, 7, 7, 7, 7, 7]) (List.append [8, 8, 8, 8, 8, 8, 8, 8, 8, 8, 8, 8, 8, 8, 8, 8, 8, 8, 8, 8, 8, 8, 8, 8, 8, 8, 8, 8, 8, 8, 8,
  8, 8, 8, 8, 8, 8, 8, 8, 8, 8, 8, 8, 8, 8, 8, 8, 8, 8, 8, 8, 8, 8, 8, 8, 8, 8, 8, 8, 8, 8, 8, 8, 8] [8, 8, 8, 8, 8, 8, 8, 8, 8, 8, 8, 8, 8, 8, 8, 8, 8, 8, 8, 8, 8, 8, 8, 8, 8, 8,
  8, 8, 8, 8, 8, 8, 8, 8, 8, 8, 8, 8, 8, 8, 8, 8, 8, 8, 8, 8, 8, 8, 8, 8, 8, 8, 8, 8, 8, 8, 8, 8, 8, 8, 8, 8, 8, 8])))) m5) fun n6 => Q (Value.int IntKind.i64 (IntKind.wrap
  IntKind.i64 (n2 + IntKind.wrap IntKind.i64 n6))) h)) : unitAt P f_math_bits_Len64 7 [0, 2] [Value.int IntKind.u64 n1, Value.int IntKind.i64 n2] h Q := unit_ok (n := 400) (ann := annOf [(4,
  [0, 2]), (7, [0, 2])]) (Eq.mp (by kernel_rfl) H)
theorem r_strconv_bool2_int {b1 : Bool} {h : AW} {Q : Value → AW → Prop} (H : bC b1 (Q (Value.int IntKind.i64 1) h) (Q (Value.int IntKind.i64 0) h)) : EvQ P f_strconv_bool2_int [Value.bool b1] h Q := fn_ok
  (n := 400) (ann := annOf []) (Eq.mp (by kernel_rfl) H)
end Go.Proofs.YtgdkekdedgkglaaDoor
end
