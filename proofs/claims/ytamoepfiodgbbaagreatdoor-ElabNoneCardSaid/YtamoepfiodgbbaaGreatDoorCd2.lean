/- A deterministic heap for the model, proved sound, and walks of the program over it: part 7. No condition. -/
import Derived.Test.YtamoepfiodgbbaaGreatDoorAb1
import Derived.Test.YtamoepfiodgbbaaGreatDoorAb2
import Derived.Test.YtamoepfiodgbbaaGreatDoorAb3
import Derived.Test.YtamoepfiodgbbaaGreatDoorAb4
import Derived.Test.YtamoepfiodgbbaaGreatDoorCd1
import Derived.Test.YtamoepfiodgbbaaGreatDoorAb5
import Derived.Test.YtamoepfiodgbbaaGreatDoorCards
import Derived.Test.YtamoepfiodgbbaaGreatDoorTie
import Derived.OpenShut
set_option linter.unusedVariables false
set_option linter.unusedSimpArgs false
set_option linter.unusedSectionVars false
section
/- path.Is comes to one answer; what a plan that is not there, or that nobody made, tells. -/
namespace Go.Proofs.YtamoepfiodgbbaaGreatDoor
open Go.Abs Go.Abs.Fo
set_option maxRecDepth 100000
attribute [local irreducible] unitAt EvQ
variable {h : AW} {μ : Paint} {ρ0 ρ : Store} {Q : Value → AW → Prop} {ns : List Nat} {rs : List Res}
/-- One answer, whatever the heap. -/
def Det1 (C : AW → (Value → AW → Prop) → Prop) : Prop := ∃ b : Bool, ∀ (h : AW) (Q : Value → AW → Prop), Q (.bool b) h → C h Q
theorem det_bC {c : Bool} {A B : AW → (Value → AW → Prop) → Prop} (ha : c = true → Det1 A) (hb : c = false → Det1 B) : Det1 fun h Q => bC c (A h Q) (B h Q) := by
  cases c with
  | true => exact ha rfl
  | false => exact hb rfl
theorem det_val (b : Bool) : Det1 fun h Q => Q (.bool b) h := ⟨b, fun _ _ q => q⟩
theorem det_map {A C : AW → (Value → AW → Prop) → Prop} (k : ∀ h Q, A h Q → C h Q) (d : Det1 A) : Det1 C := by
  obtain ⟨b, hb⟩ := d
  exact ⟨b, fun h Q q => k h Q (hb h Q q)⟩
theorem may_det (n : Int) : Det1 fun h Q => EvQ P f_path_may [.int .u8 n] h Q :=
  det_map (fun _ _ H => r_path_may H) (by repeat' first | exact det_val _ | refine det_bC (fun _ => ?_) (fun _ => ?_))
theorem seg_det {s : Str} (hs : s.size ≤ 32) : ∀ (d k : Nat), s.size - k = d → k ≤ s.size → Det1 fun h Q => unitAt P f_path_segment 4 [0, 20, 21] [.string s, .int .i64 (s.size : Int), .int .i64 (k : Int)] h Q := by
  intro d
  induction d with
  | zero =>
    intro k hd hk
    refine ⟨true, fun h Q q => ?_⟩
    refine r_path_segment_4 ?_
    rw [geI (by omega)]
    simp only [oB_some, bC_true, bC_false, vInt_int, vBool_bool, vStr_string, vPtr_pointer, vSl_slice, vMap_map, vFun_func, vAgg_agg, vTup_tuple, vIfc_nil, vIfc_iface, lC_cons, lN_nil, aP_some, shO_none, shO_some, Option.isNone_none, Option.isNone_some, Bool.not_true, Bool.not_false]
    exact q
  | succ d ih =>
    intro k hd hk
    have hlt : k < s.size := by omega
    obtain ⟨b, hb⟩ := may_det ((s.data.toList[k]'hlt).toNat : Int)
    cases b with
    | false =>
      refine ⟨false, fun h Q q => ?_⟩
      refine r_path_segment_4 ?_
      rw [ltI hlt]
      simp only [oB_some, bC_true, bC_false, vInt_int, vBool_bool, vStr_string, vPtr_pointer, vSl_slice, vMap_map, vFun_func, vAgg_agg, vTup_tuple, vIfc_nil, vIfc_iface, lC_cons, lN_nil, aP_some, shO_none, shO_some, Option.isNone_none, Option.isNone_some, Bool.not_true, Bool.not_false]
      refine oB_bind (natIdx_eq hlt) ?_
      refine oB_bind (bAt_of1 hlt) ?_
      refine hb _ _ ?_
      simp only [oB_some, bC_true, bC_false, vInt_int, vBool_bool, vStr_string, vPtr_pointer, vSl_slice, vMap_map, vFun_func, vAgg_agg, vTup_tuple, vIfc_nil, vIfc_iface, lC_cons, lN_nil, aP_some, shO_none, shO_some, Option.isNone_none, Option.isNone_some, Bool.not_true, Bool.not_false]
      exact q
    | true =>
      obtain ⟨b2, h2⟩ := ih (k + 1) (by omega) (by omega)
      refine ⟨b2, fun h Q q => ?_⟩
      refine r_path_segment_4 ?_
      rw [ltI hlt]
      simp only [oB_some, bC_true, bC_false, vInt_int, vBool_bool, vStr_string, vPtr_pointer, vSl_slice, vMap_map, vFun_func, vAgg_agg, vTup_tuple, vIfc_nil, vIfc_iface, lC_cons, lN_nil, aP_some, shO_none, shO_some, Option.isNone_none, Option.isNone_some, Bool.not_true, Bool.not_false]
      refine oB_bind (natIdx_eq hlt) ?_
      refine oB_bind (bAt_of1 hlt) ?_
      refine hb _ _ ?_
      simp only [oB_some, bC_true, bC_false, vInt_int, vBool_bool, vStr_string, vPtr_pointer, vSl_slice, vMap_map, vFun_func, vAgg_agg, vTup_tuple, vIfc_nil, vIfc_iface, lC_cons, lN_nil, aP_some, shO_none, shO_some, Option.isNone_none, Option.isNone_some, Bool.not_true, Bool.not_false]
      rw [wrapS (by omega)]
      exact h2 _ _ q
theorem segment_det (s : Str) : Det1 fun h Q => EvQ P f_path_segment [.string s] h Q :=
  det_map (fun _ _ H => r_path_segment H) (det_bC (fun _ => det_val _) fun _ => det_bC (fun _ => det_val _) fun e => det_bC (fun _ => det_val _) fun _ => det_bC (fun _ => det_val _) fun _ => by
    have e := of_decide_eq_false e
    exact seg_det (by omega) _ 0 rfl (Nat.zero_le _))
theorem is_det_loop : ∀ (n : Nat) {s : Str}, s.size ≤ n → s.size ≤ 100 → Det1 fun h Q => unitAt P f_path_Is 3 [0] [.string s] h Q := by
  intro n
  induction n with
  | zero =>
    intro s hn hs
    have h0 : s.data.toList = [] := List.length_eq_zero_iff.1 (show s.data.toList.length = 0 from Nat.le_zero.1 hn)
    obtain ⟨b, hb⟩ := segment_det s
    refine ⟨b, fun h Q q => ?_⟩
    refine r_path_Is_3 (r_strings_Cut (r_stringslite_Cut (index1_ok 47 ?_)))
    simp only [oB_some, bC_true, bC_false, vInt_int, vBool_bool, vStr_string, vPtr_pointer, vSl_slice, vMap_map, vFun_func, vAgg_agg, vTup_tuple, vIfc_nil, vIfc_iface, lC_cons, lN_nil, aP_some, shO_none, shO_some, Option.isNone_none, Option.isNone_some, Bool.not_true, Bool.not_false]
    rw [h0]
    rw [show decide ((idxB [] 47) ≥ 0) = false from rfl]
    refine hb _ _ ?_
    cases b <;> exact q
  | succ n ih =>
    intro s hn hs
    rcases idxB_spec 47 s.data.toList with ⟨h1, h2⟩ | ⟨x, y, h1, h2, h3⟩
    · obtain ⟨b, hb⟩ := segment_det s
      refine ⟨b, fun h Q q => ?_⟩
      refine r_path_Is_3 (r_strings_Cut (r_stringslite_Cut (index1_ok 47 ?_)))
      simp only [oB_some, bC_true, bC_false, vInt_int, vBool_bool, vStr_string, vPtr_pointer, vSl_slice, vMap_map, vFun_func, vAgg_agg, vTup_tuple, vIfc_nil, vIfc_iface, lC_cons, lN_nil, aP_some, shO_none, shO_some, Option.isNone_none, Option.isNone_some, Bool.not_true, Bool.not_false]
      rw [h1]
      rw [show decide ((-1 : Int) ≥ 0) = false from rfl]
      refine hb _ _ ?_
      cases b <;> exact q
    · have hl : s.size = x.length + 1 + y.length := by
        have : s.size = s.data.toList.length := rfl
        rw [this, h1]; simp; omega
      have b2 : (bSub s (x.length + 1) s.size).data.toList = y := by
        unfold bSub
        rw [hl, h1]
        simp
      have sz : (bSub s (x.length + 1) s.size).size = y.length := by
        have : (bSub s (x.length + 1) s.size).size = (bSub s (x.length + 1) s.size).data.toList.length := rfl
        rw [this, b2]
      have open1 : ∀ (h : AW) (Q : Value → AW → Prop), (EvQ P f_path_segment [.string (bSub s 0 x.length)] h fun v14 h15 => vBool v14 fun b16 => bC (!b16) (Q (.bool false) h15) (unitAt P f_path_Is 3 [0] [.string (bSub s (x.length + 1) s.size)] h15 Q)) → unitAt P f_path_Is 3 [0] [.string s] h Q := fun h Q H => by
        refine r_path_Is_3 (r_strings_Cut (r_stringslite_Cut (index1_ok 47 ?_)))
        simp only [oB_some, bC_true, bC_false, vInt_int, vBool_bool, vStr_string, vPtr_pointer, vSl_slice, vMap_map, vFun_func, vAgg_agg, vTup_tuple, vIfc_nil, vIfc_iface, lC_cons, lN_nil, aP_some, shO_none, shO_some, Option.isNone_none, Option.isNone_some, Bool.not_true, Bool.not_false]
        rw [h3, show decide ((x.length : Int) ≥ 0) = true from decide_eq_true (by omega)]
        simp only [oB_some, bC_true, bC_false, vInt_int, vBool_bool, vStr_string, vPtr_pointer, vSl_slice, vMap_map, vFun_func, vAgg_agg, vTup_tuple, vIfc_nil, vIfc_iface, lC_cons, lN_nil, aP_some, shO_none, shO_some, Option.isNone_none, Option.isNone_some, Bool.not_true, Bool.not_false]
        refine oB_bind (natBnd_eq (by omega)) ?_
        rw [show (((⟨#[47]⟩ : ByteArray).size : Nat) : Int) = 1 from rfl, wrapS (by omega)]
        refine oB_bind (natBnd_eq (by omega)) ?_
        exact H
      obtain ⟨b, hb⟩ := segment_det (bSub s 0 x.length)
      cases b with
      | false => exact ⟨false, fun h Q q => open1 h Q (hb _ _ q)⟩
      | true =>
        obtain ⟨b3, hb3⟩ := ih (s := bSub s (x.length + 1) s.size) (by omega) (by omega)
        exact ⟨b3, fun h Q q => open1 h Q (hb _ _ (hb3 _ _ q))⟩
/-- Is it a path? -/
theorem is_det (s : Str) : Det1 fun h Q => EvQ P f_path_Is [.string s] h Q :=
  det_map (fun _ _ H => r_path_Is H) (det_bC (fun _ => det_val _) fun e => by
    have e := of_decide_eq_false e
    exact is_det_loop s.size (Nat.le_refl _) (by omega))
/-! A plan that is not there, and one that nobody made. -/
theorem o_iter (O : Own h μ ρ) : Own h.newIter μ ρ := O.quiet ⟨Nat.le_succ _, fun _ _ => rfl, fun _ _ _ => rfl, fun _ _ _ => rfl, fun _ _ => rfl⟩
theorem iter_at : AW.iterAt h.newIter h.next 0 = true := by
  unfold AW.iterAt AW.newIter
  simp only [T.get?_set_same]
  rfl
theorem hb_jobs : hasBody P f_p_elab_Plan_Jobs_fn1 = true := by kernel_rfl
theorem hb_keys : hasBody P f_maps_Keys_map_string_api_Job_string_api_Job_fn1 = true := by kernel_rfl
/-- Where a plan may stand: nowhere, or with nothing in it. -/
def PlanAt (ρ : Store) (p : Option Addr) : Prop := p = none ∨ ∃ c m, p = some ⟨m, 0, none⟩ ∧ ρ c = some (.var m [.map none, .map none, .slice none 0 0, .slice none 0 0])
theorem PlanAt.keep {p : Option Addr} {ρ' : Store} (X : PlanAt ρ p) (F : Fra [] ρ ρ') : PlanAt ρ' p := X.imp id fun ⟨c, m, e, k⟩ => ⟨c, m, e, F c _ (by simp) k⟩
theorem plan_rd (O : Own h μ ρ) {c m j : Nat} {l : List Value} {v : Value} {f : Value → Prop} (hc : ρ c = some (.var m l)) (hv : l[j]? = some v) (H : f v) : oB (h.rd m j) f := o_rd O hc hv H
theorem keys0_ok (O : Own h μ ρ) (hq : RdQ Q ρ (.slice none 0 0)) : EvQ P f_slices_Sorted_string [.func (.func f_maps_Keys_map_string_api_Job_string_api_Job_fn1) #[] #[.pointer (some ⟨h.next, 0, none⟩)]] (h.addVar [.map none]) Q := by
  obtain ⟨μ1, ρ1, c1, O1, W1, hc1⟩ := w_new O p00 [.map none]
  refine r_slices_Sorted_string (r_slices_Collect_string (r_slices_AppendSeq_sl_string_string ?_))
  simp only [vFun]
  rw [hb_keys]
  simp only [oB_some, bC_true, bC_false, vInt_int, vBool_bool, vStr_string, vPtr_pointer, vSl_slice, vMap_map, vFun_func, vAgg_agg, vTup_tuple, vIfc_nil, vIfc_iface, lC_cons, lN_nil, aP_some, shO_none, shO_some, Option.isNone_none, Option.isNone_some, Bool.not_true, Bool.not_false]
  obtain ⟨μ2, ρ2, c2, O2, W2, hc2⟩ := w_new O1 W1 [.slice none 0 0]
  refine r_maps_Keys_map_string_api_Job_string_api_Job_fn1 ?_
  refine w_rd O2 W2 1 (j := 0) rfl rfl ?_
  simp only [oB_some, bC_true, bC_false, vInt_int, vBool_bool, vStr_string, vPtr_pointer, vSl_slice, vMap_map, vFun_func, vAgg_agg, vTup_tuple, vIfc_nil, vIfc_iface, lC_cons, lN_nil, aP_some, shO_none, shO_some, Option.isNone_none, Option.isNone_some, Bool.not_true, Bool.not_false]
  refine r_maps_Keys_map_string_api_Job_string_api_Job_fn1_1 ?_
  rw [iter_at]
  simp only [oB_some, bC_true, bC_false, vInt_int, vBool_bool, vStr_string, vPtr_pointer, vSl_slice, vMap_map, vFun_func, vAgg_agg, vTup_tuple, vIfc_nil, vIfc_iface, lC_cons, lN_nil, aP_some, shO_none, shO_some, Option.isNone_none, Option.isNone_some, Bool.not_true, Bool.not_false]
  have O3 := o_iter O2
  refine w_rd O3 W2 0 (j := 0) rfl rfl ?_
  simp only [oB_some, bC_true, bC_false, vInt_int, vBool_bool, vStr_string, vPtr_pointer, vSl_slice, vMap_map, vFun_func, vAgg_agg, vTup_tuple, vIfc_nil, vIfc_iface, lC_cons, lN_nil, aP_some, shO_none, shO_some, Option.isNone_none, Option.isNone_some, Bool.not_true, Bool.not_false]
  refine r_slices_Sort_sl_string_string (r_math_bits_Len (r_math_bits_Len64 ?_))
  rw [show IntKind.wrap .u64 ((0 : Nat) : Int) = 0 from by decide, show decide ((0 : Int) ≥ 4294967296) = false from by decide]
  simp only [oB_some, bC_true, bC_false, vInt_int, vBool_bool, vStr_string, vPtr_pointer, vSl_slice, vMap_map, vFun_func, vAgg_agg, vTup_tuple, vIfc_nil, vIfc_iface, lC_cons, lN_nil, aP_some, shO_none, shO_some, Option.isNone_none, Option.isNone_some, Bool.not_true, Bool.not_false]
  refine r_math_bits_Len64_4 ?_
  rw [show decide ((0 : Int) ≥ 65536) = false from by decide]
  simp only [oB_some, bC_true, bC_false, vInt_int, vBool_bool, vStr_string, vPtr_pointer, vSl_slice, vMap_map, vFun_func, vAgg_agg, vTup_tuple, vIfc_nil, vIfc_iface, lC_cons, lN_nil, aP_some, shO_none, shO_some, Option.isNone_none, Option.isNone_some, Bool.not_true, Bool.not_false]
  refine r_math_bits_Len64_7 ?_
  rw [show decide ((0 : Int) ≥ 256) = false from by decide]
  simp only [oB_some, bC_true, bC_false, vInt_int, vBool_bool, vStr_string, vPtr_pointer, vSl_slice, vMap_map, vFun_func, vAgg_agg, vTup_tuple, vIfc_nil, vIfc_iface, lC_cons, lN_nil, aP_some, shO_none, shO_some, Option.isNone_none, Option.isNone_some, Bool.not_true, Bool.not_false]
  refine oB_bind (v := 0) (by decide) ?_
  refine oB_bind (v := 0) (by rfl) ?_
  refine r_slices_pdqsortOrdered_string (r_slices_pdqsortOrdered_string_2 ?_)
  rw [show decide (IntKind.wrap .i64 (((0 : Nat) : Int) - 0) ≤ 12) = true from by decide]
  simp only [oB_some, bC_true, bC_false, vInt_int, vBool_bool, vStr_string, vPtr_pointer, vSl_slice, vMap_map, vFun_func, vAgg_agg, vTup_tuple, vIfc_nil, vIfc_iface, lC_cons, lN_nil, aP_some, shO_none, shO_some, Option.isNone_none, Option.isNone_some, Bool.not_true, Bool.not_false]
  refine r_slices_insertionSortOrdered_string (r_slices_insertionSortOrdered_string_1 ?_)
  rw [show decide (IntKind.wrap .i64 (0 + 1) < ((0 : Nat) : Int)) = false from by decide]
  simp only [oB_some, bC_true, bC_false, vInt_int, vBool_bool, vStr_string, vPtr_pointer, vSl_slice, vMap_map, vFun_func, vAgg_agg, vTup_tuple, vIfc_nil, vIfc_iface, lC_cons, lN_nil, aP_some, shO_none, shO_some, Option.isNone_none, Option.isNone_some, Bool.not_true, Bool.not_false]
  exact hq _ _ _ O3 (W2.fra0 fun c hc => by simp at hc; rcases hc with rfl | rfl <;> assumption)
theorem jobs_ok {p : Option Addr} (O : Own h μ ρ) (X : PlanAt ρ p) (hq : RdQ Q ρ (.tuple ⟨[.slice none 0 0, .bool true]⟩)) : EvQ P f_brickyardlaw15_jobs [.pointer p] h Q := by
  refine r_brickyardlaw15_jobs ?_
  obtain ⟨μ1, ρ1, c1, O1, W1, hc1⟩ := w_new O p00 [.slice none 0 0]
  obtain ⟨μ2, ρ2, c2, O2, W2, hc2⟩ := w_new O1 W1 [.bool false]
  obtain ⟨μ3, ρ3, c3, O3, W3, hc3⟩ := w_new O2 W2 [.slice none 0 0]
  refine r_p_elab_Plan_Jobs ?_
  obtain ⟨μ4, ρ4, c4, O4, W4, hc4⟩ := w_new O3 W3 [.pointer p]
  have fr : ∀ {ρ' : Store} {rs' : List Res}, Pcs ρ ρ' [c4, c3, c2, c1] rs' → Fra [] ρ ρ' := fun W => W.fra0 fun c hc => by
    simp only [List.mem_cons, List.not_mem_nil, or_false] at hc
    rcases hc with rfl | rfl | rfl | rfl <;> assumption
  refine oB_bind (v := false) rfl ?_
  simp only [bC_false, vFun]
  rw [hb_jobs]
  simp only [oB_some, bC_true, bC_false, vInt_int, vBool_bool, vStr_string, vPtr_pointer, vSl_slice, vMap_map, vFun_func, vAgg_agg, vTup_tuple, vIfc_nil, vIfc_iface, lC_cons, lN_nil, aP_some, shO_none, shO_some, Option.isNone_none, Option.isNone_some, Bool.not_true, Bool.not_false]
  have fin : ∀ {h' : AW} {μ' : Paint} {ρ' : Store}, Own h' μ' ρ' → Fra [] ρ4 ρ' → oB (AW.rd h' (AW.next (AW.addVar (AW.addVar h [.slice none 0 0]) [.bool false])) 0) fun v18 => vSl v18 fun p19 m20 m21 => oB (AW.wr h' (AW.next h) 0 (.slice p19 m20 m21)) fun h22 => oB (AW.wr h22 (AW.next (AW.addVar h [.slice none 0 0])) 0 (.bool true)) fun h23 => oB (AW.rd h23 (AW.next h) 0) fun v24 => vSl v24 fun p25 m26 m27 => oB (AW.rd h23 (AW.next (AW.addVar h [.slice none 0 0])) 0) fun v28 => vBool v28 fun b29 => Q (.tuple ⟨[.slice p25 m26 m27, .bool b29]⟩) h23 := fun {h' μ' ρ'} O' F' => by
    have W' := W4.keep0 F'
    refine w_rd O' W' 1 (j := 0) rfl rfl ?_
    simp only [oB_some, bC_true, bC_false, vInt_int, vBool_bool, vStr_string, vPtr_pointer, vSl_slice, vMap_map, vFun_func, vAgg_agg, vTup_tuple, vIfc_nil, vIfc_iface, lC_cons, lN_nil, aP_some, shO_none, shO_some, Option.isNone_none, Option.isNone_some, Bool.not_true, Bool.not_false]
    refine w_wr O' W' 3 (j := 0) rfl (Nat.le_of_ble_eq_true rfl) rfl fun h5 ρ5 O5 W5 => ?_
    refine w_wr O5 W5 2 (j := 0) rfl (Nat.le_of_ble_eq_true rfl) rfl fun h6 ρ6 O6 W6 => ?_
    refine w_rd O6 W6 3 (j := 0) rfl rfl ?_
    simp only [oB_some, bC_true, bC_false, vInt_int, vBool_bool, vStr_string, vPtr_pointer, vSl_slice, vMap_map, vFun_func, vAgg_agg, vTup_tuple, vIfc_nil, vIfc_iface, lC_cons, lN_nil, aP_some, shO_none, shO_some, Option.isNone_none, Option.isNone_some, Bool.not_true, Bool.not_false]
    refine w_rd O6 W6 2 (j := 0) rfl rfl ?_
    simp only [oB_some, bC_true, bC_false, vInt_int, vBool_bool, vStr_string, vPtr_pointer, vSl_slice, vMap_map, vFun_func, vAgg_agg, vTup_tuple, vIfc_nil, vIfc_iface, lC_cons, lN_nil, aP_some, shO_none, shO_some, Option.isNone_none, Option.isNone_some, Bool.not_true, Bool.not_false]
    exact hq _ _ _ O6 (fr W6)
  refine r_p_elab_Plan_Jobs_fn1 ?_
  refine w_rd O4 W4 0 (j := 0) rfl rfl ?_
  rcases X.keep (fr W4) with rfl | ⟨c, m, rfl, hc⟩
  · simp only [oB_some, bC_true, bC_false, vInt_int, vBool_bool, vStr_string, vPtr_pointer, vSl_slice, vMap_map, vFun_func, vAgg_agg, vTup_tuple, vIfc_nil, vIfc_iface, lC_cons, lN_nil, aP_some, shO_none, shO_some, Option.isNone_none, Option.isNone_some, Bool.not_true, Bool.not_false]
    exact fin O4 Fra.refl
  · simp only [oB_some, bC_true, bC_false, vInt_int, vBool_bool, vStr_string, vPtr_pointer, vSl_slice, vMap_map, vFun_func, vAgg_agg, vTup_tuple, vIfc_nil, vIfc_iface, lC_cons, lN_nil, aP_some, shO_none, shO_some, Option.isNone_none, Option.isNone_some, Bool.not_true, Bool.not_false]
    refine w_rd O4 W4 0 (j := 0) rfl rfl ?_
    simp only [oB_some, bC_true, bC_false, vInt_int, vBool_bool, vStr_string, vPtr_pointer, vSl_slice, vMap_map, vFun_func, vAgg_agg, vTup_tuple, vIfc_nil, vIfc_iface, lC_cons, lN_nil, aP_some, shO_none, shO_some, Option.isNone_none, Option.isNone_some, Bool.not_true, Bool.not_false]
    refine plan_rd O4 hc (j := 0) rfl ?_
    simp only [oB_some, bC_true, bC_false, vInt_int, vBool_bool, vStr_string, vPtr_pointer, vSl_slice, vMap_map, vFun_func, vAgg_agg, vTup_tuple, vIfc_nil, vIfc_iface, lC_cons, lN_nil, aP_some, shO_none, shO_some, Option.isNone_none, Option.isNone_some, Bool.not_true, Bool.not_false]
    refine r_maps_Keys_map_string_api_Job_string_api_Job ?_
    refine keys0_ok O4 fun h5 μ5 ρ5 O5 F5 => ?_
    simp only [oB_some, bC_true, bC_false, vInt_int, vBool_bool, vStr_string, vPtr_pointer, vSl_slice, vMap_map, vFun_func, vAgg_agg, vTup_tuple, vIfc_nil, vIfc_iface, lC_cons, lN_nil, aP_some, shO_none, shO_some, Option.isNone_none, Option.isNone_some, Bool.not_true, Bool.not_false]
    refine r_p_elab_Plan_Jobs_fn1_2 ?_
    rw [show decide ((0 : Int) < ((0 : Nat) : Int)) = false from by decide]
    simp only [oB_some, bC_true, bC_false, vInt_int, vBool_bool, vStr_string, vPtr_pointer, vSl_slice, vMap_map, vFun_func, vAgg_agg, vTup_tuple, vIfc_nil, vIfc_iface, lC_cons, lN_nil, aP_some, shO_none, shO_some, Option.isNone_none, Option.isNone_some, Bool.not_true, Bool.not_false]
    exact fin O5 F5
def job0 : Value := .agg ⟨[.string ⟨#[]⟩, .slice none 0 0, .slice none 0 0, .slice none 0 0]⟩
theorem find_ok {p : Option Addr} {s : Str} (O : Own h μ ρ) (X : PlanAt ρ p) (hq : RdQ Q ρ (.tuple ⟨[job0, .bool false]⟩)) : EvQ P f_p_elab_Plan_Find [.pointer p, .string s] h Q := by
  refine r_p_elab_Plan_Find ?_
  obtain ⟨μ1, ρ1, c1, O1, W1, hc1⟩ := w_new O p00 [.string ⟨#[]⟩, .slice none 0 0, .slice none 0 0, .slice none 0 0]
  have fr : ∀ {ρ' : Store} {rs' : List Res}, Pcs ρ ρ' [c1] rs' → Fra [] ρ ρ' := fun W => W.fra0 fun c hc => by
    simp only [List.mem_cons, List.not_mem_nil, or_false] at hc
    subst hc; exact hc1
  have fin : oB (AW.wrL (AW.addVar h [.string ⟨#[]⟩, .slice none 0 0, .slice none 0 0, .slice none 0 0]) (AW.next h) 0 [.string ⟨#[]⟩, .slice none 0 0, .slice none 0 0, .slice none 0 0]) fun h3 => oB (AW.rd h3 (AW.next h) 0) fun v4 => vStr v4 fun s5 => oB (AW.rd h3 (AW.next h) 1) fun v6 => vSl v6 fun p7 m8 m9 => oB (AW.rd h3 (AW.next h) 2) fun v10 => vSl v10 fun p11 m12 m13 => oB (AW.rd h3 (AW.next h) 3) fun v14 => vSl v14 fun p15 m16 m17 => Q (.tuple ⟨[.agg ⟨[.string s5, .slice p7 m8 m9, .slice p11 m12 m13, .slice p15 m16 m17]⟩, .bool false]⟩) h3 := by
    refine w_wrL O1 W1 0 rfl (Nat.le_of_ble_eq_true rfl) rfl fun h3 ρ3 O3 W3 => ?_
    refine w_rd O3 W3 0 (j := 0) rfl rfl ?_
    simp only [oB_some, bC_true, bC_false, vInt_int, vBool_bool, vStr_string, vPtr_pointer, vSl_slice, vMap_map, vFun_func, vAgg_agg, vTup_tuple, vIfc_nil, vIfc_iface, lC_cons, lN_nil, aP_some, shO_none, shO_some, Option.isNone_none, Option.isNone_some, Bool.not_true, Bool.not_false]
    refine w_rd O3 W3 0 (j := 1) rfl rfl ?_
    simp only [oB_some, bC_true, bC_false, vInt_int, vBool_bool, vStr_string, vPtr_pointer, vSl_slice, vMap_map, vFun_func, vAgg_agg, vTup_tuple, vIfc_nil, vIfc_iface, lC_cons, lN_nil, aP_some, shO_none, shO_some, Option.isNone_none, Option.isNone_some, Bool.not_true, Bool.not_false]
    refine w_rd O3 W3 0 (j := 2) rfl rfl ?_
    simp only [oB_some, bC_true, bC_false, vInt_int, vBool_bool, vStr_string, vPtr_pointer, vSl_slice, vMap_map, vFun_func, vAgg_agg, vTup_tuple, vIfc_nil, vIfc_iface, lC_cons, lN_nil, aP_some, shO_none, shO_some, Option.isNone_none, Option.isNone_some, Bool.not_true, Bool.not_false]
    refine w_rd O3 W3 0 (j := 3) rfl rfl ?_
    simp only [oB_some, bC_true, bC_false, vInt_int, vBool_bool, vStr_string, vPtr_pointer, vSl_slice, vMap_map, vFun_func, vAgg_agg, vTup_tuple, vIfc_nil, vIfc_iface, lC_cons, lN_nil, aP_some, shO_none, shO_some, Option.isNone_none, Option.isNone_some, Bool.not_true, Bool.not_false]
    exact hq _ _ _ O3 (fr W3)
  rcases X.keep (fr W1) with rfl | ⟨c, m, rfl, hc⟩
  · simp only [oB_some, bC_true, bC_false, vInt_int, vBool_bool, vStr_string, vPtr_pointer, vSl_slice, vMap_map, vFun_func, vAgg_agg, vTup_tuple, vIfc_nil, vIfc_iface, lC_cons, lN_nil, aP_some, shO_none, shO_some, Option.isNone_none, Option.isNone_some, Bool.not_true, Bool.not_false]
    exact fin
  · simp only [oB_some, bC_true, bC_false, vInt_int, vBool_bool, vStr_string, vPtr_pointer, vSl_slice, vMap_map, vFun_func, vAgg_agg, vTup_tuple, vIfc_nil, vIfc_iface, lC_cons, lN_nil, aP_some, shO_none, shO_some, Option.isNone_none, Option.isNone_some, Bool.not_true, Bool.not_false]
    obtain ⟨b, hb⟩ := is_det s
    refine hb _ _ ?_
    cases b with
    | false =>
      simp only [oB_some, bC_true, bC_false, vInt_int, vBool_bool, vStr_string, vPtr_pointer, vSl_slice, vMap_map, vFun_func, vAgg_agg, vTup_tuple, vIfc_nil, vIfc_iface, lC_cons, lN_nil, aP_some, shO_none, shO_some, Option.isNone_none, Option.isNone_some, Bool.not_true, Bool.not_false]
      exact fin
    | true =>
      simp only [oB_some, bC_true, bC_false, vInt_int, vBool_bool, vStr_string, vPtr_pointer, vSl_slice, vMap_map, vFun_func, vAgg_agg, vTup_tuple, vIfc_nil, vIfc_iface, lC_cons, lN_nil, aP_some, shO_none, shO_some, Option.isNone_none, Option.isNone_some, Bool.not_true, Bool.not_false]
      refine plan_rd O1 hc (j := 1) rfl ?_
      simp only [oB_some, bC_true, bC_false, vInt_int, vBool_bool, vStr_string, vPtr_pointer, vSl_slice, vMap_map, vFun_func, vAgg_agg, vTup_tuple, vIfc_nil, vIfc_iface, lC_cons, lN_nil, aP_some, shO_none, shO_some, Option.isNone_none, Option.isNone_some, Bool.not_true, Bool.not_false]
      refine oB_bind (v := []) rfl ?_
      refine oB_bind (v := none) rfl ?_
      simp only [Option.getD_none, vStr_string]
      rw [show (none : Option Value).isSome = false from rfl]
      simp only [oB_some, bC_true, bC_false, vInt_int, vBool_bool, vStr_string, vPtr_pointer, vSl_slice, vMap_map, vFun_func, vAgg_agg, vTup_tuple, vIfc_nil, vIfc_iface, lC_cons, lN_nil, aP_some, shO_none, shO_some, Option.isNone_none, Option.isNone_some, Bool.not_true, Bool.not_false]
      refine plan_rd O1 hc (j := 2) rfl ?_
      simp only [oB_some, bC_true, bC_false, vInt_int, vBool_bool, vStr_string, vPtr_pointer, vSl_slice, vMap_map, vFun_func, vAgg_agg, vTup_tuple, vIfc_nil, vIfc_iface, lC_cons, lN_nil, aP_some, shO_none, shO_some, Option.isNone_none, Option.isNone_some, Bool.not_true, Bool.not_false]
      refine r_p_elab_Plan_Find_7 ?_
      rw [show decide ((0 : Int) < ((0 : Nat) : Int)) = false from by decide]
      simp only [oB_some, bC_true, bC_false, vInt_int, vBool_bool, vStr_string, vPtr_pointer, vSl_slice, vMap_map, vFun_func, vAgg_agg, vTup_tuple, vIfc_nil, vIfc_iface, lC_cons, lN_nil, aP_some, shO_none, shO_some, Option.isNone_none, Option.isNone_some, Bool.not_true, Bool.not_false]
      exact fin
theorem pis_ok {p : Option Addr} {s : Str} (O : Own h μ ρ) (X : PlanAt ρ p) (hq : RdQ Q ρ (.bool false)) : EvQ P f_p_elab_Plan_Is [.pointer p, .string s] h Q := by
  refine r_p_elab_Plan_Is ?_
  refine find_ok O X fun h2 μ2 ρ2 O2 F2 => ?_
  simp only [job0]
  simp only [oB_some, bC_true, bC_false, vInt_int, vBool_bool, vStr_string, vPtr_pointer, vSl_slice, vMap_map, vFun_func, vAgg_agg, vTup_tuple, vIfc_nil, vIfc_iface, lC_cons, lN_nil, aP_some, shO_none, shO_some, Option.isNone_none, Option.isNone_some, Bool.not_true, Bool.not_false]
  obtain ⟨μ1, ρ1, c1, O1, W1, hc1⟩ := w_new O2 p00 [.string ⟨#[]⟩, .slice none 0 0, .slice none 0 0, .slice none 0 0]
  refine w_wrL O1 W1 0 rfl (Nat.le_of_ble_eq_true rfl) rfl fun h3 ρ3 O3 W3 => ?_
  exact hq _ _ _ O3 (F2.trans (W3.fra0 fun c hc => by simp at hc; subst hc; exact hc1))
theorem plen_ok {p : Option Addr} (O : Own h μ ρ) (X : PlanAt ρ p) (hq : Q (.int .i64 0) h) : EvQ P f_p_elab_Plan_Len [.pointer p] h Q := by
  refine r_p_elab_Plan_Len ?_
  rcases X with rfl | ⟨c, m, rfl, hc⟩
  · simp only [oB_some, bC_true, bC_false, vInt_int, vBool_bool, vStr_string, vPtr_pointer, vSl_slice, vMap_map, vFun_func, vAgg_agg, vTup_tuple, vIfc_nil, vIfc_iface, lC_cons, lN_nil, aP_some, shO_none, shO_some, Option.isNone_none, Option.isNone_some, Bool.not_true, Bool.not_false]
    exact hq
  · simp only [oB_some, bC_true, bC_false, vInt_int, vBool_bool, vStr_string, vPtr_pointer, vSl_slice, vMap_map, vFun_func, vAgg_agg, vTup_tuple, vIfc_nil, vIfc_iface, lC_cons, lN_nil, aP_some, shO_none, shO_some, Option.isNone_none, Option.isNone_some, Bool.not_true, Bool.not_false]
    refine plan_rd O hc (j := 0) rfl ?_
    simp only [oB_some, bC_true, bC_false, vInt_int, vBool_bool, vStr_string, vPtr_pointer, vSl_slice, vMap_map, vFun_func, vAgg_agg, vTup_tuple, vIfc_nil, vIfc_iface, lC_cons, lN_nil, aP_some, shO_none, shO_some, Option.isNone_none, Option.isNone_some, Bool.not_true, Bool.not_false]
    refine oB_bind (v := []) rfl ?_
    exact hq
theorem pfiles_ok {p : Option Addr} (O : Own h μ ρ) (X : PlanAt ρ p) (hq : Q (.slice none 0 0) h) : EvQ P f_p_elab_Plan_Files [.pointer p] h Q := by
  refine r_p_elab_Plan_Files ?_
  rcases X with rfl | ⟨c, m, rfl, hc⟩
  · simp only [oB_some, bC_true, bC_false, vInt_int, vBool_bool, vStr_string, vPtr_pointer, vSl_slice, vMap_map, vFun_func, vAgg_agg, vTup_tuple, vIfc_nil, vIfc_iface, lC_cons, lN_nil, aP_some, shO_none, shO_some, Option.isNone_none, Option.isNone_some, Bool.not_true, Bool.not_false]
    exact hq
  · simp only [oB_some, bC_true, bC_false, vInt_int, vBool_bool, vStr_string, vPtr_pointer, vSl_slice, vMap_map, vFun_func, vAgg_agg, vTup_tuple, vIfc_nil, vIfc_iface, lC_cons, lN_nil, aP_some, shO_none, shO_some, Option.isNone_none, Option.isNone_some, Bool.not_true, Bool.not_false]
    refine plan_rd O hc (j := 3) rfl ?_
    simp only [oB_some, bC_true, bC_false, vInt_int, vBool_bool, vStr_string, vPtr_pointer, vSl_slice, vMap_map, vFun_func, vAgg_agg, vTup_tuple, vIfc_nil, vIfc_iface, lC_cons, lN_nil, aP_some, shO_none, shO_some, Option.isNone_none, Option.isNone_some, Bool.not_true, Bool.not_false]
    refine r_slices_Clone_sl_string_string ?_
    simp only [oB_some, bC_true, bC_false, vInt_int, vBool_bool, vStr_string, vPtr_pointer, vSl_slice, vMap_map, vFun_func, vAgg_agg, vTup_tuple, vIfc_nil, vIfc_iface, lC_cons, lN_nil, aP_some, shO_none, shO_some, Option.isNone_none, Option.isNone_some, Bool.not_true, Bool.not_false]
    exact hq
theorem same0_ok (O : Own h μ ρ) (hq : RdQ Q ρ (.bool true)) : EvQ P f_brickyardref15_Same [job0, job0] h Q := by
  unfold job0
  refine r_brickyardref15_Same ?_
  obtain ⟨μ1, ρ1, c1, O1, W1, hc1⟩ := w_new O p00 [.string ⟨#[]⟩, .slice none 0 0, .slice none 0 0, .slice none 0 0]
  obtain ⟨μ2, ρ2, c2, O2, W2, hc2⟩ := w_new O1 W1 [.string ⟨#[]⟩, .slice none 0 0, .slice none 0 0, .slice none 0 0]
  have F2 : Fra [] ρ ρ2 := W2.fra0 fun c hc => by
    simp only [List.mem_cons, List.not_mem_nil, or_false] at hc
    rcases hc with rfl | rfl <;> assumption
  refine w_rd O2 W2 1 (j := 0) rfl rfl ?_
  simp only [oB_some, bC_true, bC_false, vInt_int, vBool_bool, vStr_string, vPtr_pointer, vSl_slice, vMap_map, vFun_func, vAgg_agg, vTup_tuple, vIfc_nil, vIfc_iface, lC_cons, lN_nil, aP_some, shO_none, shO_some, Option.isNone_none, Option.isNone_some, Bool.not_true, Bool.not_false]
  refine w_rd O2 W2 0 (j := 0) rfl rfl ?_
  simp only [oB_some, bC_true, bC_false, vInt_int, vBool_bool, vStr_string, vPtr_pointer, vSl_slice, vMap_map, vFun_func, vAgg_agg, vTup_tuple, vIfc_nil, vIfc_iface, lC_cons, lN_nil, aP_some, shO_none, shO_some, Option.isNone_none, Option.isNone_some, Bool.not_true, Bool.not_false]
  rw [show bEq (⟨#[]⟩ : ByteArray) ⟨#[]⟩ = true from rfl]
  simp only [oB_some, bC_true, bC_false, vInt_int, vBool_bool, vStr_string, vPtr_pointer, vSl_slice, vMap_map, vFun_func, vAgg_agg, vTup_tuple, vIfc_nil, vIfc_iface, lC_cons, lN_nil, aP_some, shO_none, shO_some, Option.isNone_none, Option.isNone_some, Bool.not_true, Bool.not_false]
  refine w_rd O2 W2 1 (j := 1) rfl rfl ?_
  simp only [oB_some, bC_true, bC_false, vInt_int, vBool_bool, vStr_string, vPtr_pointer, vSl_slice, vMap_map, vFun_func, vAgg_agg, vTup_tuple, vIfc_nil, vIfc_iface, lC_cons, lN_nil, aP_some, shO_none, shO_some, Option.isNone_none, Option.isNone_some, Bool.not_true, Bool.not_false]
  refine w_rd O2 W2 0 (j := 1) rfl rfl ?_
  simp only [oB_some, bC_true, bC_false, vInt_int, vBool_bool, vStr_string, vPtr_pointer, vSl_slice, vMap_map, vFun_func, vAgg_agg, vTup_tuple, vIfc_nil, vIfc_iface, lC_cons, lN_nil, aP_some, shO_none, shO_some, Option.isNone_none, Option.isNone_some, Bool.not_true, Bool.not_false]
  refine texts_ok (x := []) (y := []) O2 Vw.nil Vw.nil (by simp) ?_
  simp only [vBool_bool, decide_true, bC_true]
  refine w_rd O2 W2 1 (j := 2) rfl rfl ?_
  simp only [oB_some, bC_true, bC_false, vInt_int, vBool_bool, vStr_string, vPtr_pointer, vSl_slice, vMap_map, vFun_func, vAgg_agg, vTup_tuple, vIfc_nil, vIfc_iface, lC_cons, lN_nil, aP_some, shO_none, shO_some, Option.isNone_none, Option.isNone_some, Bool.not_true, Bool.not_false]
  refine w_rd O2 W2 0 (j := 2) rfl rfl ?_
  simp only [oB_some, bC_true, bC_false, vInt_int, vBool_bool, vStr_string, vPtr_pointer, vSl_slice, vMap_map, vFun_func, vAgg_agg, vTup_tuple, vIfc_nil, vIfc_iface, lC_cons, lN_nil, aP_some, shO_none, shO_some, Option.isNone_none, Option.isNone_some, Bool.not_true, Bool.not_false]
  refine texts_ok (x := []) (y := []) O2 Vw.nil Vw.nil (by simp) ?_
  simp only [vBool_bool, decide_true, bC_true]
  refine w_rd O2 W2 1 (j := 3) rfl rfl ?_
  simp only [oB_some, bC_true, bC_false, vInt_int, vBool_bool, vStr_string, vPtr_pointer, vSl_slice, vMap_map, vFun_func, vAgg_agg, vTup_tuple, vIfc_nil, vIfc_iface, lC_cons, lN_nil, aP_some, shO_none, shO_some, Option.isNone_none, Option.isNone_some, Bool.not_true, Bool.not_false]
  refine w_rd O2 W2 0 (j := 3) rfl rfl ?_
  simp only [oB_some, bC_true, bC_false, vInt_int, vBool_bool, vStr_string, vPtr_pointer, vSl_slice, vMap_map, vFun_func, vAgg_agg, vTup_tuple, vIfc_nil, vIfc_iface, lC_cons, lN_nil, aP_some, shO_none, shO_some, Option.isNone_none, Option.isNone_some, Bool.not_true, Bool.not_false]
  have L0 : Ly ρ2 .nil none := ⟨[], Vw.nil, rfl⟩
  refine rsame_ok (f := .nil) (g := .nil) O2 L0 L0 trivial (by show 0 ≤ _; omega) fun h3 μ3 ρ3 O3 F3 => ?_
  simp only [oB_some, bC_true, bC_false, vInt_int, vBool_bool, vStr_string, vPtr_pointer, vSl_slice, vMap_map, vFun_func, vAgg_agg, vTup_tuple, vIfc_nil, vIfc_iface, lC_cons, lN_nil, aP_some, shO_none, shO_some, Option.isNone_none, Option.isNone_some, Bool.not_true, Bool.not_false]
  exact hq _ _ _ O3 (F2.trans F3)
end Go.Proofs.YtamoepfiodgbbaaGreatDoor
end

section
/- The law's own test, run apart: it comes to true. -/
namespace Go.Proofs.YtamoepfiodgbbaaGreatDoor
open Go.Abs
set_option maxRecDepth 100000
variable {h : AW} {Q : Value → AW → Prop}
theorem works15_ok (hq : Q (.bool true) h) : EvQ P f_brickyardlaw15_works [] h Q := own_evq (n := 400) (by kernel_rfl) (by kernel_rfl) hq
end Go.Proofs.YtamoepfiodgbbaaGreatDoor
end

section
/- A plan that is not there, that nobody made, or for which there is nothing to read, says so: the law's walk. -/
namespace Go.Proofs.YtamoepfiodgbbaaGreatDoor
open Go.Abs Go.Abs.Fo
set_option maxRecDepth 100000
attribute [local irreducible] unitAt EvQ
variable {h : AW} {μ : Paint} {ρ0 ρ : Store} {Q : Value → AW → Prop} {ns : List Nat} {rs : List Res}
theorem two_0 {m : Nat} : indexV P ty_2_p_elab_Plan (.agg ⟨[.pointer none, .pointer (some ⟨m, 0, none⟩)]⟩) (.int .i64 0) = some (.pointer none) := by
  unfold indexV
  rw [ti_ty_2_p_elab_Plan]
  rfl
theorem two_1 {m : Nat} : indexV P ty_2_p_elab_Plan (.agg ⟨[.pointer none, .pointer (some ⟨m, 0, none⟩)]⟩) (.int .i64 1) = some (.pointer (some ⟨m, 0, none⟩)) := by
  unfold indexV
  rw [ti_ty_2_p_elab_Plan]
  rfl
/-- One of the two plans. -/
theorem none_step {p : Option Addr} {m : Nat} {s : Str} {k : Int} (O : Own h μ ρ) (X : PlanAt ρ p) (hk : decide (k < 2) = true) (hi : indexV P ty_2_p_elab_Plan (.agg ⟨[.pointer none, .pointer (some ⟨m, 0, none⟩)]⟩) (.int .i64 k) = some (.pointer p))
    (next : ∀ h' μ' ρ', Own h' μ' ρ' → Fra [] ρ ρ' → unitAt P f_brickyardlaw15_ElabNone 9 [0, 63, 64] [.string s, .agg ⟨[.pointer none, .pointer (some ⟨m, 0, none⟩)]⟩, .int .i64 (IntKind.wrap .i64 (k + 1))] h' Q) :
    unitAt P f_brickyardlaw15_ElabNone 9 [0, 63, 64] [.string s, .agg ⟨[.pointer none, .pointer (some ⟨m, 0, none⟩)]⟩, .int .i64 k] h Q := by
  refine r_brickyardlaw15_ElabNone_9 ?_
  rw [hk]
  simp only [oB_some, bC_true, bC_false, vInt_int, vBool_bool, vStr_string, vPtr_pointer, vSl_slice, vMap_map, vFun_func, vAgg_agg, vTup_tuple, vIfc_nil, vIfc_iface, lC_cons, lN_nil, aP_some, shO_none, shO_some, Option.isNone_none, Option.isNone_some, Bool.not_true, Bool.not_false]
  refine oB_bind hi ?_
  simp only [oB_some, bC_true, bC_false, vInt_int, vBool_bool, vStr_string, vPtr_pointer, vSl_slice, vMap_map, vFun_func, vAgg_agg, vTup_tuple, vIfc_nil, vIfc_iface, lC_cons, lN_nil, aP_some, shO_none, shO_some, Option.isNone_none, Option.isNone_some, Bool.not_true, Bool.not_false]
  refine jobs_ok O X fun h2 μ2 ρ2 O2 F2 => ?_
  simp only [oB_some, bC_true, bC_false, vInt_int, vBool_bool, vStr_string, vPtr_pointer, vSl_slice, vMap_map, vFun_func, vAgg_agg, vTup_tuple, vIfc_nil, vIfc_iface, lC_cons, lN_nil, aP_some, shO_none, shO_some, Option.isNone_none, Option.isNone_some, Bool.not_true, Bool.not_false]
  refine find_ok O2 (X.keep F2) fun h3 μ3 ρ3 O3 F3 => ?_
  have F3 := F2.trans F3
  simp only [job0]
  simp only [oB_some, bC_true, bC_false, vInt_int, vBool_bool, vStr_string, vPtr_pointer, vSl_slice, vMap_map, vFun_func, vAgg_agg, vTup_tuple, vIfc_nil, vIfc_iface, lC_cons, lN_nil, aP_some, shO_none, shO_some, Option.isNone_none, Option.isNone_some, Bool.not_true, Bool.not_false]
  obtain ⟨μ4, ρ4, c4, O4, W4, hc4⟩ := w_new O3 p00 [.string ⟨#[]⟩, .slice none 0 0, .slice none 0 0, .slice none 0 0]
  refine w_wrL O4 W4 0 rfl (Nat.le_of_ble_eq_true rfl) rfl fun h5 ρ5 O5 W5 => ?_
  have F5 : Fra [] ρ ρ5 := F3.trans (W5.fra0 fun c hc => by simp at hc; subst hc; exact hc4)
  rw [show (((0 : Nat) : Int) != 0) = false from rfl]
  simp only [oB_some, bC_true, bC_false, vInt_int, vBool_bool, vStr_string, vPtr_pointer, vSl_slice, vMap_map, vFun_func, vAgg_agg, vTup_tuple, vIfc_nil, vIfc_iface, lC_cons, lN_nil, aP_some, shO_none, shO_some, Option.isNone_none, Option.isNone_some, Bool.not_true, Bool.not_false]
  refine w_rd O5 W5 0 (j := 0) rfl rfl ?_
  simp only [oB_some, bC_true, bC_false, vInt_int, vBool_bool, vStr_string, vPtr_pointer, vSl_slice, vMap_map, vFun_func, vAgg_agg, vTup_tuple, vIfc_nil, vIfc_iface, lC_cons, lN_nil, aP_some, shO_none, shO_some, Option.isNone_none, Option.isNone_some, Bool.not_true, Bool.not_false]
  refine w_rd O5 W5 0 (j := 1) rfl rfl ?_
  simp only [oB_some, bC_true, bC_false, vInt_int, vBool_bool, vStr_string, vPtr_pointer, vSl_slice, vMap_map, vFun_func, vAgg_agg, vTup_tuple, vIfc_nil, vIfc_iface, lC_cons, lN_nil, aP_some, shO_none, shO_some, Option.isNone_none, Option.isNone_some, Bool.not_true, Bool.not_false]
  refine w_rd O5 W5 0 (j := 2) rfl rfl ?_
  simp only [oB_some, bC_true, bC_false, vInt_int, vBool_bool, vStr_string, vPtr_pointer, vSl_slice, vMap_map, vFun_func, vAgg_agg, vTup_tuple, vIfc_nil, vIfc_iface, lC_cons, lN_nil, aP_some, shO_none, shO_some, Option.isNone_none, Option.isNone_some, Bool.not_true, Bool.not_false]
  refine w_rd O5 W5 0 (j := 3) rfl rfl ?_
  simp only [oB_some, bC_true, bC_false, vInt_int, vBool_bool, vStr_string, vPtr_pointer, vSl_slice, vMap_map, vFun_func, vAgg_agg, vTup_tuple, vIfc_nil, vIfc_iface, lC_cons, lN_nil, aP_some, shO_none, shO_some, Option.isNone_none, Option.isNone_some, Bool.not_true, Bool.not_false]
  refine same0_ok O5 fun h6 μ6 ρ6 O6 F6 => ?_
  have F6 := F5.trans F6
  simp only [oB_some, bC_true, bC_false, vInt_int, vBool_bool, vStr_string, vPtr_pointer, vSl_slice, vMap_map, vFun_func, vAgg_agg, vTup_tuple, vIfc_nil, vIfc_iface, lC_cons, lN_nil, aP_some, shO_none, shO_some, Option.isNone_none, Option.isNone_some, Bool.not_true, Bool.not_false]
  refine pis_ok O6 (X.keep F6) fun h7 μ7 ρ7 O7 F7 => ?_
  have F7 := F6.trans F7
  simp only [oB_some, bC_true, bC_false, vInt_int, vBool_bool, vStr_string, vPtr_pointer, vSl_slice, vMap_map, vFun_func, vAgg_agg, vTup_tuple, vIfc_nil, vIfc_iface, lC_cons, lN_nil, aP_some, shO_none, shO_some, Option.isNone_none, Option.isNone_some, Bool.not_true, Bool.not_false]
  refine plen_ok O7 (X.keep F7) ?_
  simp only [oB_some, bC_true, bC_false, vInt_int, vBool_bool, vStr_string, vPtr_pointer, vSl_slice, vMap_map, vFun_func, vAgg_agg, vTup_tuple, vIfc_nil, vIfc_iface, lC_cons, lN_nil, aP_some, shO_none, shO_some, Option.isNone_none, Option.isNone_some, Bool.not_true, Bool.not_false]
  rw [show ((0 : Int) != 0) = false from rfl]
  simp only [oB_some, bC_true, bC_false, vInt_int, vBool_bool, vStr_string, vPtr_pointer, vSl_slice, vMap_map, vFun_func, vAgg_agg, vTup_tuple, vIfc_nil, vIfc_iface, lC_cons, lN_nil, aP_some, shO_none, shO_some, Option.isNone_none, Option.isNone_some, Bool.not_true, Bool.not_false]
  refine pfiles_ok O7 (X.keep F7) ?_
  simp only [oB_some, bC_true, bC_false, vInt_int, vBool_bool, vStr_string, vPtr_pointer, vSl_slice, vMap_map, vFun_func, vAgg_agg, vTup_tuple, vIfc_nil, vIfc_iface, lC_cons, lN_nil, aP_some, shO_none, shO_some, Option.isNone_none, Option.isNone_some, Bool.not_true, Bool.not_false]
  rw [show (((0 : Nat) : Int) != 0) = false from rfl]
  simp only [oB_some, bC_true, bC_false, vInt_int, vBool_bool, vStr_string, vPtr_pointer, vSl_slice, vMap_map, vFun_func, vAgg_agg, vTup_tuple, vIfc_nil, vIfc_iface, lC_cons, lN_nil, aP_some, shO_none, shO_some, Option.isNone_none, Option.isNone_some, Bool.not_true, Bool.not_false]
  exact next _ _ _ O7 F7
theorem none_loop {s : Str} (O : Own h μ ρ) (hq : ∀ h', Q (.bool true) h') : unitAt P f_brickyardlaw15_ElabNone 9 [0, 63, 64] [.string s, .agg ⟨[.pointer none, .pointer (some ⟨h.next, 0, none⟩)]⟩, .int .i64 0] (h.addVar [.map none, .map none, .slice none 0 0, .slice none 0 0]) Q := by
  obtain ⟨μ1, ρ1, c1, O1, W1, hc1⟩ := w_new O p00 [.map none, .map none, .slice none 0 0, .slice none 0 0]
  refine none_step O1 (.inl rfl) rfl two_0 fun h2 μ2 ρ2 O2 F2 => ?_
  rw [show IntKind.wrap .i64 (0 + 1) = 1 from by decide]
  have X : PlanAt ρ2 (some ⟨h.next, 0, none⟩) := PlanAt.keep (.inr ⟨c1, h.next, rfl, W1.at_ 0 _ _ rfl rfl⟩) F2
  refine none_step O2 X rfl two_1 fun h3 μ3 ρ3 O3 F3 => ?_
  rw [show IntKind.wrap .i64 (1 + 1) = 2 from by decide]
  refine r_brickyardlaw15_ElabNone_9 ?_
  rw [show decide ((2 : Int) < 2) = false from rfl]
  simp only [oB_some, bC_true, bC_false, vInt_int, vBool_bool, vStr_string, vPtr_pointer, vSl_slice, vMap_map, vFun_func, vAgg_agg, vTup_tuple, vIfc_nil, vIfc_iface, lC_cons, lN_nil, aP_some, shO_none, shO_some, Option.isNone_none, Option.isNone_some, Bool.not_true, Bool.not_false]
  exact hq _
theorem elabNone_ok (O : Own h μ ρ) {s : Str} (hq : ∀ h', Q (.bool true) h') : EvQ P f_brickyardlaw15_ElabNone [.string s] h Q := by
  refine r_brickyardlaw15_ElabNone ?_
  refine works15_ok ?_
  simp only [oB_some, bC_true, bC_false, vInt_int, vBool_bool, vStr_string, vPtr_pointer, vSl_slice, vMap_map, vFun_func, vAgg_agg, vTup_tuple, vIfc_nil, vIfc_iface, lC_cons, lN_nil, aP_some, shO_none, shO_some, Option.isNone_none, Option.isNone_some, Bool.not_true, Bool.not_false]
  refine r_elab_New_nil ?_
  obtain ⟨μ1, ρ1, c1, O1, W1, hc1⟩ := w_new O p00 [.int .i64 0, .string ⟨#[]⟩, .int .i64 0, .int .i64 0]
  refine w_wrL O1 W1 0 rfl (Nat.le_of_ble_eq_true rfl) rfl fun h2 ρ2 O2 W2 => ?_
  refine w_rd O2 W2 0 (j := 0) rfl rfl ?_
  simp only [oB_some, bC_true, bC_false, vInt_int, vBool_bool, vStr_string, vPtr_pointer, vSl_slice, vMap_map, vFun_func, vAgg_agg, vTup_tuple, vIfc_nil, vIfc_iface, lC_cons, lN_nil, aP_some, shO_none, shO_some, Option.isNone_none, Option.isNone_some, Bool.not_true, Bool.not_false]
  refine w_rd O2 W2 0 (j := 1) rfl rfl ?_
  simp only [oB_some, bC_true, bC_false, vInt_int, vBool_bool, vStr_string, vPtr_pointer, vSl_slice, vMap_map, vFun_func, vAgg_agg, vTup_tuple, vIfc_nil, vIfc_iface, lC_cons, lN_nil, aP_some, shO_none, shO_some, Option.isNone_none, Option.isNone_some, Bool.not_true, Bool.not_false]
  refine w_rd O2 W2 0 (j := 2) rfl rfl ?_
  simp only [oB_some, bC_true, bC_false, vInt_int, vBool_bool, vStr_string, vPtr_pointer, vSl_slice, vMap_map, vFun_func, vAgg_agg, vTup_tuple, vIfc_nil, vIfc_iface, lC_cons, lN_nil, aP_some, shO_none, shO_some, Option.isNone_none, Option.isNone_some, Bool.not_true, Bool.not_false]
  refine w_rd O2 W2 0 (j := 3) rfl rfl ?_
  simp only [oB_some, bC_true, bC_false, vInt_int, vBool_bool, vStr_string, vPtr_pointer, vSl_slice, vMap_map, vFun_func, vAgg_agg, vTup_tuple, vIfc_nil, vIfc_iface, lC_cons, lN_nil, aP_some, shO_none, shO_some, Option.isNone_none, Option.isNone_some, Bool.not_true, Bool.not_false]
  obtain ⟨μ3, ρ3, c3, O3, W3, hc3⟩ := w_new O2 p00 [.int .i64 0, .string ⟨#[]⟩, .int .i64 0, .int .i64 0]
  refine w_wrL O3 W3 0 rfl (Nat.le_of_ble_eq_true rfl) rfl fun h4 ρ4 O4 W4 => ?_
  refine r_elab_New_fun ?_
  obtain ⟨b, hb⟩ := is_det s
  obtain ⟨μ5, ρ5, c5, O5, W5, hc5⟩ := w_new O4 W4 [.int .i64 0, .string ⟨#[]⟩, .int .i64 0, .int .i64 0]
  refine hb _ _ ?_
  cases b with
  | false =>
    simp only [oB_some, bC_true, bC_false, vInt_int, vBool_bool, vStr_string, vPtr_pointer, vSl_slice, vMap_map, vFun_func, vAgg_agg, vTup_tuple, vIfc_nil, vIfc_iface, lC_cons, lN_nil, aP_some, shO_none, shO_some, Option.isNone_none, Option.isNone_some, Bool.not_true, Bool.not_false]
    refine w_wrL O5 W5 0 rfl (Nat.le_of_ble_eq_true rfl) rfl fun h6 ρ6 O6 W6 => ?_
    refine w_rd O6 W6 0 (j := 0) rfl rfl ?_
    simp only [oB_some, bC_true, bC_false, vInt_int, vBool_bool, vStr_string, vPtr_pointer, vSl_slice, vMap_map, vFun_func, vAgg_agg, vTup_tuple, vIfc_nil, vIfc_iface, lC_cons, lN_nil, aP_some, shO_none, shO_some, Option.isNone_none, Option.isNone_some, Bool.not_true, Bool.not_false]
    refine w_rd O6 W6 0 (j := 1) rfl rfl ?_
    simp only [oB_some, bC_true, bC_false, vInt_int, vBool_bool, vStr_string, vPtr_pointer, vSl_slice, vMap_map, vFun_func, vAgg_agg, vTup_tuple, vIfc_nil, vIfc_iface, lC_cons, lN_nil, aP_some, shO_none, shO_some, Option.isNone_none, Option.isNone_some, Bool.not_true, Bool.not_false]
    refine w_rd O6 W6 0 (j := 2) rfl rfl ?_
    simp only [oB_some, bC_true, bC_false, vInt_int, vBool_bool, vStr_string, vPtr_pointer, vSl_slice, vMap_map, vFun_func, vAgg_agg, vTup_tuple, vIfc_nil, vIfc_iface, lC_cons, lN_nil, aP_some, shO_none, shO_some, Option.isNone_none, Option.isNone_some, Bool.not_true, Bool.not_false]
    refine w_rd O6 W6 0 (j := 3) rfl rfl ?_
    simp only [oB_some, bC_true, bC_false, vInt_int, vBool_bool, vStr_string, vPtr_pointer, vSl_slice, vMap_map, vFun_func, vAgg_agg, vTup_tuple, vIfc_nil, vIfc_iface, lC_cons, lN_nil, aP_some, shO_none, shO_some, Option.isNone_none, Option.isNone_some, Bool.not_true, Bool.not_false]
    obtain ⟨μ7, ρ7, c7, O7, W7, hc7⟩ := w_new O6 W6 [.int .i64 0, .string ⟨#[]⟩, .int .i64 0, .int .i64 0]
    refine w_wrL O7 W7 0 rfl (Nat.le_of_ble_eq_true rfl) rfl fun h8 ρ8 O8 W8 => ?_
    refine w_rd O8 W8 2 (j := 0) rfl rfl ?_
    simp only [oB_some, bC_true, bC_false, vInt_int, vBool_bool, vStr_string, vPtr_pointer, vSl_slice, vMap_map, vFun_func, vAgg_agg, vTup_tuple, vIfc_nil, vIfc_iface, lC_cons, lN_nil, aP_some, shO_none, shO_some, Option.isNone_none, Option.isNone_some, Bool.not_true, Bool.not_false]
    refine w_rd O8 W8 2 (j := 1) rfl rfl ?_
    simp only [oB_some, bC_true, bC_false, vInt_int, vBool_bool, vStr_string, vPtr_pointer, vSl_slice, vMap_map, vFun_func, vAgg_agg, vTup_tuple, vIfc_nil, vIfc_iface, lC_cons, lN_nil, aP_some, shO_none, shO_some, Option.isNone_none, Option.isNone_some, Bool.not_true, Bool.not_false]
    refine w_rd O8 W8 2 (j := 2) rfl rfl ?_
    simp only [oB_some, bC_true, bC_false, vInt_int, vBool_bool, vStr_string, vPtr_pointer, vSl_slice, vMap_map, vFun_func, vAgg_agg, vTup_tuple, vIfc_nil, vIfc_iface, lC_cons, lN_nil, aP_some, shO_none, shO_some, Option.isNone_none, Option.isNone_some, Bool.not_true, Bool.not_false]
    refine w_rd O8 W8 2 (j := 3) rfl rfl ?_
    simp only [oB_some, bC_true, bC_false, vInt_int, vBool_bool, vStr_string, vPtr_pointer, vSl_slice, vMap_map, vFun_func, vAgg_agg, vTup_tuple, vIfc_nil, vIfc_iface, lC_cons, lN_nil, aP_some, shO_none, shO_some, Option.isNone_none, Option.isNone_some, Bool.not_true, Bool.not_false]
    rw [show ((1 : Int) == 1 && (bEq (⟨#[]⟩ : ByteArray) ⟨#[]⟩ && ((0 : Int) == 0 && ((0 : Int) == 0 && true)))) = true from rfl]
    simp only [oB_some, bC_true, bC_false, vInt_int, vBool_bool, vStr_string, vPtr_pointer, vSl_slice, vMap_map, vFun_func, vAgg_agg, vTup_tuple, vIfc_nil, vIfc_iface, lC_cons, lN_nil, aP_some, shO_none, shO_some, Option.isNone_none, Option.isNone_some, Bool.not_true, Bool.not_false]
    refine w_rd O8 W8 0 (j := 1) rfl rfl ?_
    simp only [oB_some, bC_true, bC_false, vInt_int, vBool_bool, vStr_string, vPtr_pointer, vSl_slice, vMap_map, vFun_func, vAgg_agg, vTup_tuple, vIfc_nil, vIfc_iface, lC_cons, lN_nil, aP_some, shO_none, shO_some, Option.isNone_none, Option.isNone_some, Bool.not_true, Bool.not_false]
    rw [show bEq s s = true from bEq_iff.2 rfl]
    simp only [oB_some, bC_true, bC_false, vInt_int, vBool_bool, vStr_string, vPtr_pointer, vSl_slice, vMap_map, vFun_func, vAgg_agg, vTup_tuple, vIfc_nil, vIfc_iface, lC_cons, lN_nil, aP_some, shO_none, shO_some, Option.isNone_none, Option.isNone_some, Bool.not_true, Bool.not_false]
    refine w_rd O8 W8 0 (j := 0) rfl rfl ?_
    simp only [oB_some, bC_true, bC_false, vInt_int, vBool_bool, vStr_string, vPtr_pointer, vSl_slice, vMap_map, vFun_func, vAgg_agg, vTup_tuple, vIfc_nil, vIfc_iface, lC_cons, lN_nil, aP_some, shO_none, shO_some, Option.isNone_none, Option.isNone_some, Bool.not_true, Bool.not_false]
    rw [show ((2 : Int) != 2) = false from rfl]
    simp only [oB_some, bC_true, bC_false, vInt_int, vBool_bool, vStr_string, vPtr_pointer, vSl_slice, vMap_map, vFun_func, vAgg_agg, vTup_tuple, vIfc_nil, vIfc_iface, lC_cons, lN_nil, aP_some, shO_none, shO_some, Option.isNone_none, Option.isNone_some, Bool.not_true, Bool.not_false]
    refine w_rd O8 W8 0 (j := 0) rfl rfl ?_
    simp only [oB_some, bC_true, bC_false, vInt_int, vBool_bool, vStr_string, vPtr_pointer, vSl_slice, vMap_map, vFun_func, vAgg_agg, vTup_tuple, vIfc_nil, vIfc_iface, lC_cons, lN_nil, aP_some, shO_none, shO_some, Option.isNone_none, Option.isNone_some, Bool.not_true, Bool.not_false]
    refine hb _ _ ?_
    simp only [oB_some, bC_true, bC_false, vInt_int, vBool_bool, vStr_string, vPtr_pointer, vSl_slice, vMap_map, vFun_func, vAgg_agg, vTup_tuple, vIfc_nil, vIfc_iface, lC_cons, lN_nil, aP_some, shO_none, shO_some, Option.isNone_none, Option.isNone_some, Bool.not_true, Bool.not_false]
    refine w_rd O8 W8 0 (j := 0) rfl rfl ?_
    simp only [oB_some, bC_true, bC_false, vInt_int, vBool_bool, vStr_string, vPtr_pointer, vSl_slice, vMap_map, vFun_func, vAgg_agg, vTup_tuple, vIfc_nil, vIfc_iface, lC_cons, lN_nil, aP_some, shO_none, shO_some, Option.isNone_none, Option.isNone_some, Bool.not_true, Bool.not_false]
    refine ⟨trivial, ?_⟩
    rw [show (!((2 : Int) == 4) == false) = false from rfl]
    simp only [oB_some, bC_true, bC_false, vInt_int, vBool_bool, vStr_string, vPtr_pointer, vSl_slice, vMap_map, vFun_func, vAgg_agg, vTup_tuple, vIfc_nil, vIfc_iface, lC_cons, lN_nil, aP_some, shO_none, shO_some, Option.isNone_none, Option.isNone_some, Bool.not_true, Bool.not_false]
    exact none_loop O8 hq
  | true =>
    simp only [oB_some, bC_true, bC_false, vInt_int, vBool_bool, vStr_string, vPtr_pointer, vSl_slice, vMap_map, vFun_func, vAgg_agg, vTup_tuple, vIfc_nil, vIfc_iface, lC_cons, lN_nil, aP_some, shO_none, shO_some, Option.isNone_none, Option.isNone_some, Bool.not_true, Bool.not_false]
    refine r_brickyardlaw15_ElabNone_fn1 ?_
    simp only [oB_some, bC_true, bC_false, vInt_int, vBool_bool, vStr_string, vPtr_pointer, vSl_slice, vMap_map, vFun_func, vAgg_agg, vTup_tuple, vIfc_nil, vIfc_iface, lC_cons, lN_nil, aP_some, shO_none, shO_some, Option.isNone_none, Option.isNone_some, Bool.not_true, Bool.not_false]
    refine w_wrL O5 W5 0 rfl (Nat.le_of_ble_eq_true rfl) rfl fun h6 ρ6 O6 W6 => ?_
    refine w_rd O6 W6 0 (j := 0) rfl rfl ?_
    simp only [oB_some, bC_true, bC_false, vInt_int, vBool_bool, vStr_string, vPtr_pointer, vSl_slice, vMap_map, vFun_func, vAgg_agg, vTup_tuple, vIfc_nil, vIfc_iface, lC_cons, lN_nil, aP_some, shO_none, shO_some, Option.isNone_none, Option.isNone_some, Bool.not_true, Bool.not_false]
    refine w_rd O6 W6 0 (j := 1) rfl rfl ?_
    simp only [oB_some, bC_true, bC_false, vInt_int, vBool_bool, vStr_string, vPtr_pointer, vSl_slice, vMap_map, vFun_func, vAgg_agg, vTup_tuple, vIfc_nil, vIfc_iface, lC_cons, lN_nil, aP_some, shO_none, shO_some, Option.isNone_none, Option.isNone_some, Bool.not_true, Bool.not_false]
    refine w_rd O6 W6 0 (j := 2) rfl rfl ?_
    simp only [oB_some, bC_true, bC_false, vInt_int, vBool_bool, vStr_string, vPtr_pointer, vSl_slice, vMap_map, vFun_func, vAgg_agg, vTup_tuple, vIfc_nil, vIfc_iface, lC_cons, lN_nil, aP_some, shO_none, shO_some, Option.isNone_none, Option.isNone_some, Bool.not_true, Bool.not_false]
    refine w_rd O6 W6 0 (j := 3) rfl rfl ?_
    simp only [oB_some, bC_true, bC_false, vInt_int, vBool_bool, vStr_string, vPtr_pointer, vSl_slice, vMap_map, vFun_func, vAgg_agg, vTup_tuple, vIfc_nil, vIfc_iface, lC_cons, lN_nil, aP_some, shO_none, shO_some, Option.isNone_none, Option.isNone_some, Bool.not_true, Bool.not_false]
    obtain ⟨μ7, ρ7, c7, O7, W7, hc7⟩ := w_new O6 W6 [.int .i64 0, .string ⟨#[]⟩, .int .i64 0, .int .i64 0]
    refine w_wrL O7 W7 0 rfl (Nat.le_of_ble_eq_true rfl) rfl fun h8 ρ8 O8 W8 => ?_
    refine w_rd O8 W8 2 (j := 0) rfl rfl ?_
    simp only [oB_some, bC_true, bC_false, vInt_int, vBool_bool, vStr_string, vPtr_pointer, vSl_slice, vMap_map, vFun_func, vAgg_agg, vTup_tuple, vIfc_nil, vIfc_iface, lC_cons, lN_nil, aP_some, shO_none, shO_some, Option.isNone_none, Option.isNone_some, Bool.not_true, Bool.not_false]
    refine w_rd O8 W8 2 (j := 1) rfl rfl ?_
    simp only [oB_some, bC_true, bC_false, vInt_int, vBool_bool, vStr_string, vPtr_pointer, vSl_slice, vMap_map, vFun_func, vAgg_agg, vTup_tuple, vIfc_nil, vIfc_iface, lC_cons, lN_nil, aP_some, shO_none, shO_some, Option.isNone_none, Option.isNone_some, Bool.not_true, Bool.not_false]
    refine w_rd O8 W8 2 (j := 2) rfl rfl ?_
    simp only [oB_some, bC_true, bC_false, vInt_int, vBool_bool, vStr_string, vPtr_pointer, vSl_slice, vMap_map, vFun_func, vAgg_agg, vTup_tuple, vIfc_nil, vIfc_iface, lC_cons, lN_nil, aP_some, shO_none, shO_some, Option.isNone_none, Option.isNone_some, Bool.not_true, Bool.not_false]
    refine w_rd O8 W8 2 (j := 3) rfl rfl ?_
    simp only [oB_some, bC_true, bC_false, vInt_int, vBool_bool, vStr_string, vPtr_pointer, vSl_slice, vMap_map, vFun_func, vAgg_agg, vTup_tuple, vIfc_nil, vIfc_iface, lC_cons, lN_nil, aP_some, shO_none, shO_some, Option.isNone_none, Option.isNone_some, Bool.not_true, Bool.not_false]
    rw [show ((1 : Int) == 1 && (bEq (⟨#[]⟩ : ByteArray) ⟨#[]⟩ && ((0 : Int) == 0 && ((0 : Int) == 0 && true)))) = true from rfl]
    simp only [oB_some, bC_true, bC_false, vInt_int, vBool_bool, vStr_string, vPtr_pointer, vSl_slice, vMap_map, vFun_func, vAgg_agg, vTup_tuple, vIfc_nil, vIfc_iface, lC_cons, lN_nil, aP_some, shO_none, shO_some, Option.isNone_none, Option.isNone_some, Bool.not_true, Bool.not_false]
    refine w_rd O8 W8 0 (j := 1) rfl rfl ?_
    simp only [oB_some, bC_true, bC_false, vInt_int, vBool_bool, vStr_string, vPtr_pointer, vSl_slice, vMap_map, vFun_func, vAgg_agg, vTup_tuple, vIfc_nil, vIfc_iface, lC_cons, lN_nil, aP_some, shO_none, shO_some, Option.isNone_none, Option.isNone_some, Bool.not_true, Bool.not_false]
    rw [show bEq s s = true from bEq_iff.2 rfl]
    simp only [oB_some, bC_true, bC_false, vInt_int, vBool_bool, vStr_string, vPtr_pointer, vSl_slice, vMap_map, vFun_func, vAgg_agg, vTup_tuple, vIfc_nil, vIfc_iface, lC_cons, lN_nil, aP_some, shO_none, shO_some, Option.isNone_none, Option.isNone_some, Bool.not_true, Bool.not_false]
    refine w_rd O8 W8 0 (j := 0) rfl rfl ?_
    simp only [oB_some, bC_true, bC_false, vInt_int, vBool_bool, vStr_string, vPtr_pointer, vSl_slice, vMap_map, vFun_func, vAgg_agg, vTup_tuple, vIfc_nil, vIfc_iface, lC_cons, lN_nil, aP_some, shO_none, shO_some, Option.isNone_none, Option.isNone_some, Bool.not_true, Bool.not_false]
    rw [show ((4 : Int) != 2) = true from rfl]
    simp only [oB_some, bC_true, bC_false, vInt_int, vBool_bool, vStr_string, vPtr_pointer, vSl_slice, vMap_map, vFun_func, vAgg_agg, vTup_tuple, vIfc_nil, vIfc_iface, lC_cons, lN_nil, aP_some, shO_none, shO_some, Option.isNone_none, Option.isNone_some, Bool.not_true, Bool.not_false]
    refine w_rd O8 W8 0 (j := 0) rfl rfl ?_
    simp only [oB_some, bC_true, bC_false, vInt_int, vBool_bool, vStr_string, vPtr_pointer, vSl_slice, vMap_map, vFun_func, vAgg_agg, vTup_tuple, vIfc_nil, vIfc_iface, lC_cons, lN_nil, aP_some, shO_none, shO_some, Option.isNone_none, Option.isNone_some, Bool.not_true, Bool.not_false]
    rw [show ((4 : Int) != 4) = false from rfl]
    simp only [oB_some, bC_true, bC_false, vInt_int, vBool_bool, vStr_string, vPtr_pointer, vSl_slice, vMap_map, vFun_func, vAgg_agg, vTup_tuple, vIfc_nil, vIfc_iface, lC_cons, lN_nil, aP_some, shO_none, shO_some, Option.isNone_none, Option.isNone_some, Bool.not_true, Bool.not_false]
    refine w_rd O8 W8 0 (j := 0) rfl rfl ?_
    simp only [oB_some, bC_true, bC_false, vInt_int, vBool_bool, vStr_string, vPtr_pointer, vSl_slice, vMap_map, vFun_func, vAgg_agg, vTup_tuple, vIfc_nil, vIfc_iface, lC_cons, lN_nil, aP_some, shO_none, shO_some, Option.isNone_none, Option.isNone_some, Bool.not_true, Bool.not_false]
    refine hb _ _ ?_
    simp only [oB_some, bC_true, bC_false, vInt_int, vBool_bool, vStr_string, vPtr_pointer, vSl_slice, vMap_map, vFun_func, vAgg_agg, vTup_tuple, vIfc_nil, vIfc_iface, lC_cons, lN_nil, aP_some, shO_none, shO_some, Option.isNone_none, Option.isNone_some, Bool.not_true, Bool.not_false]
    refine w_rd O8 W8 0 (j := 0) rfl rfl ?_
    simp only [oB_some, bC_true, bC_false, vInt_int, vBool_bool, vStr_string, vPtr_pointer, vSl_slice, vMap_map, vFun_func, vAgg_agg, vTup_tuple, vIfc_nil, vIfc_iface, lC_cons, lN_nil, aP_some, shO_none, shO_some, Option.isNone_none, Option.isNone_some, Bool.not_true, Bool.not_false]
    refine ⟨trivial, ?_⟩
    rw [show (!((4 : Int) == 4) == true) = false from rfl]
    simp only [oB_some, bC_true, bC_false, vInt_int, vBool_bool, vStr_string, vPtr_pointer, vSl_slice, vMap_map, vFun_func, vAgg_agg, vTup_tuple, vIfc_nil, vIfc_iface, lC_cons, lN_nil, aP_some, shO_none, shO_some, Option.isNone_none, Option.isNone_some, Bool.not_true, Bool.not_false]
    exact none_loop O8 hq
end Go.Proofs.YtamoepfiodgbbaaGreatDoor
end

section
/- Numbers in decimal digits, made by the library. -/
namespace Go.Proofs.YtamoepfiodgbbaaGreatDoor
open Go.Abs Go.Abs.Fo
set_option maxRecDepth 100000
attribute [local irreducible] unitAt EvQ
variable {h : AW} {μ : Paint} {ρ : Store} {Q : Value → AW → Prop}
/-- The powers of ten. -/
abbrev pow10 : List Value := [.int .u64 1, .int .u64 10, .int .u64 100, .int .u64 1000, .int .u64 10000, .int .u64 100000, .int .u64 1000000, .int .u64 10000000, .int .u64 100000000, .int .u64 1000000000, .int .u64 10000000000, .int .u64 100000000000, .int .u64 1000000000000, .int .u64 10000000000000, .int .u64 100000000000000, .int .u64 1000000000000000, .int .u64 10000000000000000, .int .u64 100000000000000000, .int .u64 1000000000000000000, .int .u64 10000000000000000000]
end Go.Proofs.YtamoepfiodgbbaaGreatDoor
end

section
/- What the rows of layer 15 share: types, a world for the witness, jobs opened. -/
open Go.RowKit
namespace Go.Proofs.YtamoepfiodgbbaaGreatDoor
open Go.Abs Go.Abs.Fo Go.ChangeShapes Go.WideShapes
set_option maxRecDepth 100000
theorem own_knob : ownKnob Tryz.prog.godebug = none := by kernel_rfl
/-- A world for the witness: the tables and the errors hold what their initialisers lay. -/
noncomputable def lowB : Nat := (World.holding Tryz.prog default ⟨#[], #[], []⟩).heap.size
abbrev textRange : ByteArray := ⟨#[118, 97, 108, 117, 101, 32, 111, 117, 116, 32, 111, 102, 32, 114, 97, 110, 103, 101]⟩
abbrev textSyntax : ByteArray := ⟨#[105, 110, 118, 97, 108, 105, 100, 32, 115, 121, 110, 116, 97, 120]⟩
def tabCellsF : DataW Unit → Array Value
  | .agg l => (l.flatMap fun
    | .lit (.int k z) => [Value.int k z]
    | .agg m => m.map fun
      | .lit (.int k z) => Value.int k z
      | _ => .bool false
    | _ => [.bool false]).toArray
  | _ => #[]
def putTabF (h : Array Obj) : List (Nat × DataW Unit) → Array Obj
  | [] => h
  | (g, d) :: l => (putTabF h l).modify g fun
    | .cells _ t frozen => .cells (tabCellsF d) t frozen
    | o => o
noncomputable def laidW (os : Os) : World :=
  let w0 := World.holding Tryz.prog os ⟨#[.cells #[.string textRange] 241, .cells #[.string textSyntax] 241], #[], []⟩
  { w0 with heap := ((putTabF w0.heap [(6, Rows.laid_math_bits_deBruijn32tab), (7, Rows.laid_math_bits_deBruijn64tab), (5, Rows.laid_internal_strconv_uint64pow10), (2, Rows.laid_unicode_utf8_acceptRanges), (1, Rows.laid_unicode_utf8_first)]).modify 4 fun
      | .cells _ t frozen => .cells #[.iface 239 (.pointer (some ⟨lowB, 0, none⟩))] t frozen
      | o => o).modify 3 fun
      | .cells _ t frozen => .cells #[.iface 239 (.pointer (some ⟨lowB + 1, 0, none⟩))] t frozen
      | o => o }
theorem laid_met {args : Array Value} (os : Os) : laidMet Tryz.prog Rows.elabTextsRow.laid ((laidW os).forCall (fun _ _ => 0) ⟨#[], args, []⟩).memory :=
  laidMet_of_run' 8 (by kernel_rfl) (by kernel_rfl)
/-- The powers of ten, as the row lists them. -/
theorem pow_good {W : World} {rest : List (String × DataW Unit)} (h : laidMet Tryz.prog (("internal/strconv.uint64pow10", Rows.laid_internal_strconv_uint64pow10) :: rest) W) : GoodV W [(some ⟨5, 0, none⟩, pow10)] := by
  have ht : Lib.TabIs Tryz.prog W "internal/strconv.uint64pow10" .u64 [1, 10, 100, 1000, 10000, 100000, 1000000, 10000000, 100000000, 1000000000, 10000000000, 100000000000, 1000000000000, 10000000000000, 100000000000000, 1000000000000000, 10000000000000000, 100000000000000000, 1000000000000000000, 10000000000000000000] :=
    Lib.tabIs_of_head (g := 5) (t := 236) (e := 202) (n := 20) (by kernel_rfl) (by kernel_rfl) (by kernel_rfl) (by kernel_rfl) (by kernel_rfl) (by kernel_rfl) h
  have hg : Tryz.prog.globalNamed "internal/strconv.uint64pow10" = some 5 := by kernel_rfl
  intro a l hm
  simp at hm
  obtain ⟨rfl, rfl⟩ := hm
  refine ⟨5, 0, rfl, ?_, fun j hj => ?_⟩
  · have := cell_block (ht.cell hg 0 (by simp))
    simp only at this
    omega
  · have hc := ht.cell hg j (by simpa using hj)
    rw [Nat.zero_add]
    have := mir_rd hc (.int _ _)
    rw [this]
    have e : ∀ k : Fin 20, pow10[k.1]? = some (.int .u64 ([1, 10, 100, 1000, 10000, 100000, 1000000, 10000000, 100000000, 1000000000, 10000000000, 100000000000, 1000000000000, 10000000000000, 100000000000000, 1000000000000000, 10000000000000000, 100000000000000000, 1000000000000000000, 10000000000000000000].getD k.1 0)) := by
      intro k
      match k with
      | ⟨0, _⟩ | ⟨1, _⟩ | ⟨2, _⟩ | ⟨3, _⟩ | ⟨4, _⟩ | ⟨5, _⟩ | ⟨6, _⟩ | ⟨7, _⟩ | ⟨8, _⟩ | ⟨9, _⟩ | ⟨10, _⟩ | ⟨11, _⟩ | ⟨12, _⟩ | ⟨13, _⟩ | ⟨14, _⟩ | ⟨15, _⟩ | ⟨16, _⟩ | ⟨17, _⟩ | ⟨18, _⟩ | ⟨19, _⟩ => rfl
      | ⟨k + 20, hk⟩ => exact absurd hk (by omega)
    rw [e ⟨j, by simpa using hj⟩]
    rfl
section
variable {H : Type} {enc : TypeId × Value → H} {W : World} {held : Bool}
end
end Go.Proofs.YtamoepfiodgbbaaGreatDoor
end
