/- A deterministic heap for the model, proved sound, and walks of the program over it: part 8. No condition. -/
import Derived.Test.YtgdkekdedgkglaaDoorAb1
import Derived.Test.YtgdkekdedgkglaaDoorAb2
import Derived.Test.YtgdkekdedgkglaaDoorAb3
import Derived.Test.YtgdkekdedgkglaaDoorAb4
import Derived.Test.YtgdkekdedgkglaaDoorAb5
import Derived.Test.YtgdkekdedgkglaaDoorAb6
import Derived.Test.YtgdkekdedgkglaaDoorCd1
set_option linter.unusedVariables false
set_option linter.unusedSimpArgs false
set_option linter.unusedSectionVars false
section
/- The scheduler: what its functions come to, second part. -/
namespace Go.Proofs.YtgdkekdedgkglaaDoor
open Go.Abs Go.Abs.Sch
set_option maxRecDepth 100000
attribute [local irreducible] unitAt EvQ
variable {h : AW} {μ : Paint} {ρ : Store} {Q : Value → AW → Prop}

def ImpTo (Q : Value → AW → Prop) (ρ : Store) (I : IM) (v : Value) (m' : MI) : Prop :=
  ∀ h' μ' ρ' (I' : IM), Own h' μ' ρ' → ImpAt ρ' I' → I'.m = m' → I'.p = I.p → FrN I.ns ρ I'.ns ρ' → Q v h'
theorem i_want_loop {ks : List Str} {a : Option Addr} {c : Nat} (hk : ks.length ≤ 1000000) :
    ∀ (n j : Nat) {h : AW} {μ : Paint} {ρ : Store} {I : IM}, ks.length - j = n → j ≤ ks.length → Own h μ ρ → ImpAt ρ I → Rd ρ I.ns a (strs ks) → I.t.length + n ≤ 1000000 → I.queue.length + n ≤ 1000000 →
      ImpTo Q ρ I (.int .i64 0) ((ks.drop j).foldl iwant1 I.m) → unitAt P f_p_sched_Sched_Want 6 [0, 14, 15, 16] [.pointer (some ⟨I.p, 0, none⟩), .slice a ks.length c, .int .i64 (ks.length : Int), .int .i64 (j : Int)] h Q := by
  intro n
  induction n with
  | zero =>
    intro j h μ ρ I hn hj O R X ht hqq hq
    refine r_p_sched_Sched_Want_6 ?_
    rw [geI (by omega)]
    simp only [oB_some, bC_true, bC_false, vInt_int, vBool_bool, vStr_string, vPtr_pointer, vSl_slice, vMap_map, vFun_func, vAgg_agg, vTup_tuple, vIfc_nil, vIfc_iface, lC_cons, lN_nil, aP_some, shO_none, shO_some, Option.isNone_none, Option.isNone_some, Bool.not_true, Bool.not_false]
    rw [List.drop_eq_nil_of_le (by omega)] at hq
    exact hq _ _ _ I O R rfl rfl FrN.refl
  | succ n ih =>
    intro j h μ ρ I hn hj O R X ht hqq hq
    have hlt : j < ks.length := by omega
    refine r_p_sched_Sched_Want_6 ?_
    rw [ltI hlt]
    simp only [oB_some, bC_true, bC_false, vInt_int, vBool_bool, vStr_string, vPtr_pointer, vSl_slice, vMap_map, vFun_func, vAgg_agg, vTup_tuple, vIfc_nil, vIfc_iface, lC_cons, lN_nil, aP_some, shO_none, shO_some, Option.isNone_none, Option.isNone_some, Bool.not_true, Bool.not_false]
    refine sat1 (X.sl O) rfl rfl hlt ?_
    rw [List.drop_eq_getElem_cons hlt, List.foldl_cons] at hq
    generalize ks[j] = k at *
    refine w_rd O R 0 (j := 0) rfl rfl ?_
    simp only [oB_some, bC_true, bC_false, vInt_int, vBool_bool, vStr_string, vPtr_pointer, vSl_slice, vMap_map, vFun_func, vAgg_agg, vTup_tuple, vIfc_nil, vIfc_iface, lC_cons, lN_nil, aP_some, shO_none, shO_some, Option.isNone_none, Option.isNone_some, Bool.not_true, Bool.not_false]
    refine i_look O R 1 rfl k ?_
    rw [wrapS (by omega)]
    cases e : iget I.t k with
    | some x =>
      have : iwant1 I.m k = I.m := by
        unfold iwant1 IM.m IM.ts
        simp only
        rw [iget_m, e]; rfl
      rw [this] at hq
      simp only [Option.map_some, oB_some, bC_true, bC_false, vInt_int, vBool_bool, vStr_string, vPtr_pointer, vSl_slice, vMap_map, vFun_func, vAgg_agg, vTup_tuple, vIfc_nil, vIfc_iface, lC_cons, lN_nil, aP_some, shO_none, shO_some, Option.isNone_none, Option.isNone_some, Bool.not_true, Bool.not_false]
      exact ih (j + 1) (by omega) hlt O R X (by omega) (by omega) hq
    | none =>
      have hw : iwant1 I.m k = ⟨I.ts ++ [newMT k], I.slots, I.queue ++ [k]⟩ := by
        unfold iwant1 IM.m IM.ts
        simp only
        rw [iget_m, e]; rfl
      rw [hw] at hq
      simp only [Option.map_none, oB_some, bC_true, bC_false, vInt_int, vBool_bool, vStr_string, vPtr_pointer, vSl_slice, vMap_map, vFun_func, vAgg_agg, vTup_tuple, vIfc_nil, vIfc_iface, lC_cons, lN_nil, aP_some, shO_none, shO_some, Option.isNone_none, Option.isNone_some, Bool.not_true, Bool.not_false]
      obtain ⟨μ1, ρ1, c1, O1, W1, hc1⟩ := w_new O R [.int .i64 0, .string e0, .slice none 0 0, .int .i64 0]
      refine w_rd O1 W1 1 (j := 0) rfl rfl ?_
      simp only [oB_some, bC_true, bC_false, vInt_int, vBool_bool, vStr_string, vPtr_pointer, vSl_slice, vMap_map, vFun_func, vAgg_agg, vTup_tuple, vIfc_nil, vIfc_iface, lC_cons, lN_nil, aP_some, shO_none, shO_some, Option.isNone_none, Option.isNone_some, Bool.not_true, Bool.not_false]
      refine w_mapUpd (P := P) (k := .string k) O1 W1 2 rfl ti_ty_map_string_p_sched_task ti_ty_string rfl (upd_keyd k _ _) fun h2 ρ2 O2 W2 => ?_
      rw [updS_new (by rw [look_ents, e]; rfl)] at W2
      refine r_p_sched_Sched_ready ?_
      refine turn_raw (b := 1) O2 W2 1 0 (a := 0) (ca := manyOf I.ts 0) (cb := manyOf I.ts 1) (lm := I.head) rfl rfl (by omega) rfl (by omega) (by omega) rfl rfl rfl ?_ ?_ ?_ ?_ fun h3 ρ3 O3 W3 => ?_
      · have := manyOf_le (l := I.ts) (B := 1000000) (by simp [IM.ts]; omega) 0; omega
      · have := manyOf_le (l := I.ts) (B := 1000000) (by simp [IM.ts]; omega) 0; omega
      · have := manyOf_le (l := I.ts) (B := 1000000) (by simp [IM.ts]; omega) 1; omega
      · have := manyOf_le (l := I.ts) (B := 1000000) (by simp [IM.ts]; omega) 1; omega
      simp only [oB_some, bC_true, bC_false, vInt_int, vBool_bool, vStr_string, vPtr_pointer, vSl_slice, vMap_map, vFun_func, vAgg_agg, vTup_tuple, vIfc_nil, vIfc_iface, lC_cons, lN_nil, aP_some, shO_none, shO_some, Option.isNone_none, Option.isNone_some, Bool.not_true, Bool.not_false]
      refine w_rd O3 W3 1 (j := 2) rfl rfl ?_
      simp only [oB_some, bC_true, bC_false, vInt_int, vBool_bool, vStr_string, vPtr_pointer, vSl_slice, vMap_map, vFun_func, vAgg_agg, vTup_tuple, vIfc_nil, vIfc_iface, lC_cons, lN_nil, aP_some, shO_none, shO_some, Option.isNone_none, Option.isNone_some, Bool.not_true, Bool.not_false]
      obtain ⟨μ4, ρ4, c4, O4, W4, hc4⟩ := w_block O3 W3 (strs [k]) (n := 1) (sz := 1) rfl rfl
      refine w_app (P := P) O4 W4 5 ti_ty_sl_string ti_ty_string (by decide) rfl (by simp) (w_sl O4 W4 0 rfl) rfl rfl (by omega) (by omega) fun qa qc h5 μ5 ρ5 O5 W5 => ?_
      simp only [oB_some, bC_true, bC_false, vInt_int, vBool_bool, vStr_string, vPtr_pointer, vSl_slice, vMap_map, vFun_func, vAgg_agg, vTup_tuple, vIfc_nil, vIfc_iface, lC_cons, lN_nil, aP_some, shO_none, shO_some, Option.isNone_none, Option.isNone_some, Bool.not_true, Bool.not_false]
      refine w_wr O5 W5 2 (j := 2) rfl (by simp [IM.head]) rfl fun h6 ρ6 O6 W6 => ?_
      have W6 := (W6.tail hc4).rot
      obtain ⟨ρ7, c7, O7, W7, hc7⟩ := w_nil O6 W6 1
      have W7 := W7.rot
      let x : IT := ⟨newMT k, c1, c7, h.next, none, 0⟩
      let I' : IM := { I with t := I.t ++ [x], queue := I.queue ++ [k], qa := qa, qc := qc }
      have hns : I'.ns = I.ns ++ [c1, c7] := by simp [I', x, IT.ns]
      have hts : I'.ts = I.ts ++ [newMT k] := by simp [I', x, IM.ts]
      have hm := fun s => manyOf_snoc (l := I.ts) (t := newMT k) (s := s)
      have hh : I'.head = [.map (some I.mp), .slice I.sa I.slots.length I.sc, .slice qa (I.queue.length + 1) qc, .int .i64 (manyOf I.ts 0 - 1), .int .i64 (manyOf I.ts 1 + 1), .int .i64 (manyOf I.ts 2), .int .i64 (manyOf I.ts 3), .int .i64 (manyOf I.ts 4)] := by
        unfold IM.head
        rw [hts]
        simp only [hm, I']
        simp [newMT, Int.sub_eq_add_neg]
      have R7 : Pcs ρ ρ7 I'.ns I'.rs := by
        refine (W7.names ?_).eq ?_
        · rw [hns]; simp
        · show _ = Res.var I'.p I'.head :: _
          rw [hh]
          simp [I', x, IT.rs, IT.cells, IM.head, newMT, ents, keyd]
      have F7 : FrN I.ns ρ I'.ns ρ7 := by
        refine ⟨fun c r hn hc => R7.fra c r (fun y => ?_) hc, fun c hc => ?_, fun c hc => by rw [hns]; exact List.mem_append_left _ hc⟩
        · have : c ∈ I.ns ∨ c = c1 ∨ c = c7 := by rw [hns, List.mem_append] at y; simpa using y
          rcases this with z | z | z
          · exact hn z
          · rw [z, hc1] at hc; cases hc
          · rw [z, hc7] at hc; cases hc
        · have : c ∈ I.ns ∨ c = c1 ∨ c = c7 := by rw [hns, List.mem_append] at hc; simpa using hc
          rcases this with z | z | z
          · exact .inl z
          · exact .inr (by rw [z]; exact hc1)
          · exact .inr (by rw [z]; exact hc7)
      refine ih (j + 1) (I := I') (by omega) hlt O7 R7.self (X.keepN F7) (by simp [I']; omega) (by simp [I']; omega) ?_
      intro h' μ' ρ' J O' R' a b F
      refine hq h' μ' ρ' J O' R' ?_ b (F7.trans F)
      rw [a]
      simp [I', x, IM.m, IM.ts]
theorem i_want_ok {ks : List Str} {a : Option Addr} {c : Nat} {I : IM} (hk : ks.length ≤ 1000000) (O : Own h μ ρ) (R : ImpAt ρ I) (X : Rd ρ I.ns a (strs ks)) (ht : I.t.length + ks.length ≤ 1000000) (hqq : I.queue.length + ks.length ≤ 1000000)
    (hq : ImpTo Q ρ I (.int .i64 ((iwant I.m ks).1 : Nat)) (iwant I.m ks).2) : EvQ P f_p_sched_Sched_Want [.pointer (some ⟨I.p, 0, none⟩), .slice a ks.length c] h Q := by
  refine r_p_sched_Sched_Want ?_
  simp only [oB_some, bC_true, bC_false, vInt_int, vBool_bool, vStr_string, vPtr_pointer, vSl_slice, vMap_map, vFun_func, vAgg_agg, vTup_tuple, vIfc_nil, vIfc_iface, lC_cons, lN_nil, aP_some, shO_none, shO_some, Option.isNone_none, Option.isNone_some, Bool.not_true, Bool.not_false]
  refine contains_ok (X.sl O) (by omega) ?_
  simp only [oB_some, bC_true, bC_false, vInt_int, vBool_bool, vStr_string, vPtr_pointer, vSl_slice, vMap_map, vFun_func, vAgg_agg, vTup_tuple, vIfc_nil, vIfc_iface, lC_cons, lN_nil, aP_some, shO_none, shO_some, Option.isNone_none, Option.isNone_some, Bool.not_true, Bool.not_false]
  unfold iwant at hq
  refine bC_iff (fun e => ?_) (fun e => ?_)
  · rw [if_pos e] at hq
    exact hq _ _ _ I O R rfl rfl FrN.refl
  · rw [if_neg (by simp [e])] at hq
    exact i_want_loop hk _ 0 rfl (by omega) O R X ht hqq hq
theorem i_slots_ok {I : IM} (O : Own h μ ρ) (R : ImpAt ρ I) (hl : I.slots.length ≤ 1000000) (hq : NewS Q ρ I.slots) : EvQ P f_p_sched_Sched_Slots [.pointer (some ⟨I.p, 0, none⟩)] h Q := by
  refine r_p_sched_Sched_Slots ?_
  simp only [oB_some, bC_true, bC_false, vInt_int, vBool_bool, vStr_string, vPtr_pointer, vSl_slice, vMap_map, vFun_func, vAgg_agg, vTup_tuple, vIfc_nil, vIfc_iface, lC_cons, lN_nil, aP_some, shO_none, shO_some, Option.isNone_none, Option.isNone_some, Bool.not_true, Bool.not_false]
  refine w_rd O R 0 (j := 1) rfl rfl ?_
  simp only [oB_some, bC_true, bC_false, vInt_int, vBool_bool, vStr_string, vPtr_pointer, vSl_slice, vMap_map, vFun_func, vAgg_agg, vTup_tuple, vIfc_nil, vIfc_iface, lC_cons, lN_nil, aP_some, shO_none, shO_some, Option.isNone_none, Option.isNone_some, Bool.not_true, Bool.not_false]
  refine clone_ok O (Rd.of_sl O (by simp) (R.at_ 2 _ _ rfl rfl)) (by omega) fun h' μ' ρ' co oa oc O' W' hco => ?_
  simp only [oB_some, bC_true, bC_false, vInt_int, vBool_bool, vStr_string, vPtr_pointer, vSl_slice, vMap_map, vFun_func, vAgg_agg, vTup_tuple, vIfc_nil, vIfc_iface, lC_cons, lN_nil, aP_some, shO_none, shO_some, Option.isNone_none, Option.isNone_some, Bool.not_true, Bool.not_false]
  exact hq _ _ _ _ _ _ O' W' hco
theorem i_queue_ok {I : IM} (O : Own h μ ρ) (R : ImpAt ρ I) (hl : I.queue.length ≤ 1000000) (hq : NewS Q ρ I.queue) : EvQ P f_p_sched_Sched_Queue [.pointer (some ⟨I.p, 0, none⟩)] h Q := by
  refine r_p_sched_Sched_Queue ?_
  simp only [oB_some, bC_true, bC_false, vInt_int, vBool_bool, vStr_string, vPtr_pointer, vSl_slice, vMap_map, vFun_func, vAgg_agg, vTup_tuple, vIfc_nil, vIfc_iface, lC_cons, lN_nil, aP_some, shO_none, shO_some, Option.isNone_none, Option.isNone_some, Bool.not_true, Bool.not_false]
  refine w_rd O R 0 (j := 2) rfl rfl ?_
  simp only [oB_some, bC_true, bC_false, vInt_int, vBool_bool, vStr_string, vPtr_pointer, vSl_slice, vMap_map, vFun_func, vAgg_agg, vTup_tuple, vIfc_nil, vIfc_iface, lC_cons, lN_nil, aP_some, shO_none, shO_some, Option.isNone_none, Option.isNone_some, Bool.not_true, Bool.not_false]
  refine bC_iff (fun e => ?_) (fun e => ?_)
  · have : I.queue = [] := List.eq_nil_of_length_eq_zero (by simp at e; simpa using e)
    rw [this] at hq
    exact new_nil O hq
  refine w_rd O R 0 (j := 2) rfl rfl ?_
  simp only [oB_some, bC_true, bC_false, vInt_int, vBool_bool, vStr_string, vPtr_pointer, vSl_slice, vMap_map, vFun_func, vAgg_agg, vTup_tuple, vIfc_nil, vIfc_iface, lC_cons, lN_nil, aP_some, shO_none, shO_some, Option.isNone_none, Option.isNone_some, Bool.not_true, Bool.not_false]
  refine clone_ok O (Rd.of_sl O (by simp) (R.at_ 3 _ _ rfl rfl)) (by omega) fun h' μ' ρ' co oa oc O' W' hco => ?_
  simp only [oB_some, bC_true, bC_false, vInt_int, vBool_bool, vStr_string, vPtr_pointer, vSl_slice, vMap_map, vFun_func, vAgg_agg, vTup_tuple, vIfc_nil, vIfc_iface, lC_cons, lN_nil, aP_some, shO_none, shO_some, Option.isNone_none, Option.isNone_some, Bool.not_true, Bool.not_false]
  exact hq _ _ _ _ _ _ O' W' hco
theorem i_live_ok {I : IM} (O : Own h μ ρ) (R : ImpAt ρ I) (hl : I.t.length ≤ 1000000) (hq : Q (.bool (decide (manyOf I.ts 1 + manyOf I.ts 2 > 0))) h) : EvQ P f_p_sched_Sched_live [.pointer (some ⟨I.p, 0, none⟩)] h Q := by
  refine r_p_sched_Sched_live ?_
  simp only [oB_some, bC_true, bC_false, vInt_int, vBool_bool, vStr_string, vPtr_pointer, vSl_slice, vMap_map, vFun_func, vAgg_agg, vTup_tuple, vIfc_nil, vIfc_iface, lC_cons, lN_nil, aP_some, shO_none, shO_some, Option.isNone_none, Option.isNone_some, Bool.not_true, Bool.not_false]
  rw [show natIdx 1 5 = some 1 from rfl, show natIdx 2 5 = some 2 from rfl]
  simp only [oB_some, bC_true, bC_false, vInt_int, vBool_bool, vStr_string, vPtr_pointer, vSl_slice, vMap_map, vFun_func, vAgg_agg, vTup_tuple, vIfc_nil, vIfc_iface, lC_cons, lN_nil, aP_some, shO_none, shO_some, Option.isNone_none, Option.isNone_some, Bool.not_true, Bool.not_false]
  refine w_rd O R 0 (j := 4) rfl rfl ?_
  simp only [oB_some, bC_true, bC_false, vInt_int, vBool_bool, vStr_string, vPtr_pointer, vSl_slice, vMap_map, vFun_func, vAgg_agg, vTup_tuple, vIfc_nil, vIfc_iface, lC_cons, lN_nil, aP_some, shO_none, shO_some, Option.isNone_none, Option.isNone_some, Bool.not_true, Bool.not_false]
  refine w_rd O R 0 (j := 5) rfl rfl ?_
  simp only [oB_some, bC_true, bC_false, vInt_int, vBool_bool, vStr_string, vPtr_pointer, vSl_slice, vMap_map, vFun_func, vAgg_agg, vTup_tuple, vIfc_nil, vIfc_iface, lC_cons, lN_nil, aP_some, shO_none, shO_some, Option.isNone_none, Option.isNone_some, Bool.not_true, Bool.not_false]
  have m1 := manyOf_le (l := I.ts) (B := 1000000) (by simpa [IM.ts] using hl) 1
  have m2 := manyOf_le (l := I.ts) (B := 1000000) (by simpa [IM.ts] using hl) 2
  rw [wrap_sm (n := manyOf I.ts 1 + manyOf I.ts 2) (by omega) (by omega)]
  exact hq
def ilive (l : List MT) : Bool := decide (manyOf l 1 + manyOf l 2 > 0)
theorem i_stuck_ok {I : IM} (O : Own h μ ρ) (R : ImpAt ρ I) (hl : I.t.length ≤ 1000000) (hq : Q (.bool (!ilive I.ts && decide (manyOf I.ts 3 > 0))) h) : EvQ P f_p_sched_Sched_Stuck [.pointer (some ⟨I.p, 0, none⟩)] h Q := by
  refine r_p_sched_Sched_Stuck ?_
  simp only [oB_some, bC_true, bC_false, vInt_int, vBool_bool, vStr_string, vPtr_pointer, vSl_slice, vMap_map, vFun_func, vAgg_agg, vTup_tuple, vIfc_nil, vIfc_iface, lC_cons, lN_nil, aP_some, shO_none, shO_some, Option.isNone_none, Option.isNone_some, Bool.not_true, Bool.not_false]
  refine i_live_ok O R hl ?_
  simp only [oB_some, bC_true, bC_false, vInt_int, vBool_bool, vStr_string, vPtr_pointer, vSl_slice, vMap_map, vFun_func, vAgg_agg, vTup_tuple, vIfc_nil, vIfc_iface, lC_cons, lN_nil, aP_some, shO_none, shO_some, Option.isNone_none, Option.isNone_some, Bool.not_true, Bool.not_false]
  rw [show natIdx 3 5 = some 3 from rfl]
  refine bC_iff (fun e => ?_) (fun e => ?_)
  · refine w_rd O R 0 (j := 6) rfl rfl ?_
    simp only [oB_some, bC_true, bC_false, vInt_int, vBool_bool, vStr_string, vPtr_pointer, vSl_slice, vMap_map, vFun_func, vAgg_agg, vTup_tuple, vIfc_nil, vIfc_iface, lC_cons, lN_nil, aP_some, shO_none, shO_some, Option.isNone_none, Option.isNone_some, Bool.not_true, Bool.not_false]
    have e : ilive I.ts = false := by simpa [ilive] using e
    rw [e] at hq; simpa using hq
  · have e : ilive I.ts = true := by simpa [ilive] using e
    rw [e] at hq; simpa using hq
theorem i_over_ok {I : IM} (O : Own h μ ρ) (R : ImpAt ρ I) (hl : I.t.length ≤ 1000000) (hq : Q (.bool (!ilive I.ts && (manyOf I.ts 3 == 0))) h) : EvQ P f_p_sched_Sched_Over [.pointer (some ⟨I.p, 0, none⟩)] h Q := by
  refine r_p_sched_Sched_Over ?_
  simp only [oB_some, bC_true, bC_false, vInt_int, vBool_bool, vStr_string, vPtr_pointer, vSl_slice, vMap_map, vFun_func, vAgg_agg, vTup_tuple, vIfc_nil, vIfc_iface, lC_cons, lN_nil, aP_some, shO_none, shO_some, Option.isNone_none, Option.isNone_some, Bool.not_true, Bool.not_false]
  refine i_live_ok O R hl ?_
  simp only [oB_some, bC_true, bC_false, vInt_int, vBool_bool, vStr_string, vPtr_pointer, vSl_slice, vMap_map, vFun_func, vAgg_agg, vTup_tuple, vIfc_nil, vIfc_iface, lC_cons, lN_nil, aP_some, shO_none, shO_some, Option.isNone_none, Option.isNone_some, Bool.not_true, Bool.not_false]
  rw [show natIdx 3 5 = some 3 from rfl]
  refine bC_iff (fun e => ?_) (fun e => ?_)
  · refine w_rd O R 0 (j := 6) rfl rfl ?_
    simp only [oB_some, bC_true, bC_false, vInt_int, vBool_bool, vStr_string, vPtr_pointer, vSl_slice, vMap_map, vFun_func, vAgg_agg, vTup_tuple, vIfc_nil, vIfc_iface, lC_cons, lN_nil, aP_some, shO_none, shO_some, Option.isNone_none, Option.isNone_some, Bool.not_true, Bool.not_false]
    have e : ilive I.ts = false := by simpa [ilive] using e
    rw [e] at hq; simpa using hq
  · have e : ilive I.ts = true := by simpa [ilive] using e
    rw [e] at hq; simpa using hq
theorem i_leave_ok {k : Str} {I : IM} {ρ0 : Store} (O : Own h μ ρ) (R : Pcs ρ0 ρ I.ns I.rs) (hl : I.slots.length ≤ 1000000) (hk : k ∈ I.slots)
    (hq : ∀ h' ρ', Own h' μ ρ' → Pcs ρ0 ρ' { I with slots := ileave I.slots k }.ns { I with slots := ileave I.slots k }.rs → Q (.tuple #[]) h') :
    EvQ P f_p_sched_Sched_leave [.pointer (some ⟨I.p, 0, none⟩), .string k] h Q := by
  refine r_p_sched_Sched_leave ?_
  simp only [oB_some, bC_true, bC_false, vInt_int, vBool_bool, vStr_string, vPtr_pointer, vSl_slice, vMap_map, vFun_func, vAgg_agg, vTup_tuple, vIfc_nil, vIfc_iface, lC_cons, lN_nil, aP_some, shO_none, shO_some, Option.isNone_none, Option.isNone_some, Bool.not_true, Bool.not_false]
  refine w_rd O R 0 (j := 1) rfl rfl ?_
  simp only [oB_some, bC_true, bC_false, vInt_int, vBool_bool, vStr_string, vPtr_pointer, vSl_slice, vMap_map, vFun_func, vAgg_agg, vTup_tuple, vIfc_nil, vIfc_iface, lC_cons, lN_nil, aP_some, shO_none, shO_some, Option.isNone_none, Option.isNone_some, Bool.not_true, Bool.not_false]
  refine w_rd O R 0 (j := 1) rfl rfl ?_
  simp only [oB_some, bC_true, bC_false, vInt_int, vBool_bool, vStr_string, vPtr_pointer, vSl_slice, vMap_map, vFun_func, vAgg_agg, vTup_tuple, vIfc_nil, vIfc_iface, lC_cons, lN_nil, aP_some, shO_none, shO_some, Option.isNone_none, Option.isNone_some, Bool.not_true, Bool.not_false]
  refine index_ok (w_sl O R 2 rfl) (by omega) ?_
  simp only [oB_some, bC_true, bC_false, vInt_int, vBool_bool, vStr_string, vPtr_pointer, vSl_slice, vMap_map, vFun_func, vAgg_agg, vTup_tuple, vIfc_nil, vIfc_iface, lC_cons, lN_nil, aP_some, shO_none, shO_some, Option.isNone_none, Option.isNone_some, Bool.not_true, Bool.not_false]
  unfold idxOf
  unfold ileave at hq
  cases e : I.slots.findIdx? (fun t => bEq k t) with
  | none =>
    have := List.findIdx?_eq_none_iff.1 e k hk
    simp at this
  | some j =>
    rw [e] at hq
    have hj := (List.findIdx?_eq_some_iff_getElem.1 e).1
    simp only
    refine w_i1_wr O R 2 rfl rfl (by simp) (by simpa using hj) rfl fun h1 ρ1 O1 W1 => ?_
    refine w_rd O R 0 (j := 1) rfl rfl ?_
    simp only [oB_some, bC_true, bC_false, vInt_int, vBool_bool, vStr_string, vPtr_pointer, vSl_slice, vMap_map, vFun_func, vAgg_agg, vTup_tuple, vIfc_nil, vIfc_iface, lC_cons, lN_nil, aP_some, shO_none, shO_some, Option.isNone_none, Option.isNone_some, Bool.not_true, Bool.not_false]
    refine ⟨trivial, hq _ _ O1 (W1.eq (by simp [IM.head, IM.ts, List.map_set]))⟩
end Go.Proofs.YtgdkekdedgkglaaDoor
end

section
/- The scheduler: what its functions come to, third part. -/
namespace Go.Proofs.YtgdkekdedgkglaaDoor
open Go.Abs Go.Abs.Sch
set_option maxRecDepth 100000
attribute [local irreducible] unitAt EvQ
variable {h : AW} {μ : Paint} {ρ : Store} {Q : Value → AW → Prop}

def ipickV (slots : List Str) (n : Int) : Value := .tuple ⟨match pickFrom slots (pickAt slots.length n) slots.length 0 with | some s => [.string s, .bool true] | none => [.string e0, .bool false]⟩
/-- The closure's three boxes. -/
abbrev boxes (I : IM) (n : Int) (b1 b2 b3 : Nat) : List Res := [.var b3 [.int .i64 (I.slots.length : Int)], .var b2 [.int .i64 n], .var b1 [.pointer (some ⟨I.p, 0, none⟩)]]
theorem pick_fn {I : IM} {n : Int} {b1 b2 b3 i : Nat} {ρ0 : Store} {cs : List Nat} (O : Own h μ ρ) (W : Pcs ρ0 ρ cs (boxes I n b1 b2 b3 ++ I.rs)) (hw : 0 < I.slots.length) (hl : I.slots.length ≤ 1000) (hi : i ≤ I.slots.length)
    (hq : Q (.string (I.slots.getD ((pickAt I.slots.length n + i) % I.slots.length) e0)) h) :
    EvQ P f_p_sched_Sched_Pick_fn1 [.int .i64 (i : Int), .pointer (some ⟨b1, 0, none⟩), .pointer (some ⟨b2, 0, none⟩), .pointer (some ⟨b3, 0, none⟩)] h Q := by
  have h0 := tmod_range hw n
  have h1 := tmod_fix hw n
  have ha := pickAt_lt hw n
  have hne : decide ((I.slots.length : Int) = 0) = false := decide_eq_false (by omega)
  refine r_p_sched_Sched_Pick_fn1 ?_
  refine w_rd O W 2 (j := 0) rfl rfl ?_
  simp only [oB_some, bC_true, bC_false, vInt_int, vBool_bool, vStr_string, vPtr_pointer, vSl_slice, vMap_map, vFun_func, vAgg_agg, vTup_tuple, vIfc_nil, vIfc_iface, lC_cons, lN_nil, aP_some, shO_none, shO_some, Option.isNone_none, Option.isNone_some, Bool.not_true, Bool.not_false]
  refine w_rd O W 3 (j := 1) rfl rfl ?_
  simp only [oB_some, bC_true, bC_false, vInt_int, vBool_bool, vStr_string, vPtr_pointer, vSl_slice, vMap_map, vFun_func, vAgg_agg, vTup_tuple, vIfc_nil, vIfc_iface, lC_cons, lN_nil, aP_some, shO_none, shO_some, Option.isNone_none, Option.isNone_some, Bool.not_true, Bool.not_false]
  refine w_rd O W 1 (j := 0) rfl rfl ?_
  simp only [oB_some, bC_true, bC_false, vInt_int, vBool_bool, vStr_string, vPtr_pointer, vSl_slice, vMap_map, vFun_func, vAgg_agg, vTup_tuple, vIfc_nil, vIfc_iface, lC_cons, lN_nil, aP_some, shO_none, shO_some, Option.isNone_none, Option.isNone_some, Bool.not_true, Bool.not_false]
  refine w_rd O W 0 (j := 0) rfl rfl ?_
  simp only [oB_some, bC_true, bC_false, vInt_int, vBool_bool, vStr_string, vPtr_pointer, vSl_slice, vMap_map, vFun_func, vAgg_agg, vTup_tuple, vIfc_nil, vIfc_iface, lC_cons, lN_nil, aP_some, shO_none, shO_some, Option.isNone_none, Option.isNone_some, Bool.not_true, Bool.not_false]
  rw [hne]
  simp only [oB_some, bC_true, bC_false, vInt_int, vBool_bool, vStr_string, vPtr_pointer, vSl_slice, vMap_map, vFun_func, vAgg_agg, vTup_tuple, vIfc_nil, vIfc_iface, lC_cons, lN_nil, aP_some, shO_none, shO_some, Option.isNone_none, Option.isNone_some, Bool.not_true, Bool.not_false]
  refine w_rd O W 0 (j := 0) rfl rfl ?_
  simp only [oB_some, bC_true, bC_false, vInt_int, vBool_bool, vStr_string, vPtr_pointer, vSl_slice, vMap_map, vFun_func, vAgg_agg, vTup_tuple, vIfc_nil, vIfc_iface, lC_cons, lN_nil, aP_some, shO_none, shO_some, Option.isNone_none, Option.isNone_some, Bool.not_true, Bool.not_false]
  refine w_rd O W 0 (j := 0) rfl rfl ?_
  simp only [oB_some, bC_true, bC_false, vInt_int, vBool_bool, vStr_string, vPtr_pointer, vSl_slice, vMap_map, vFun_func, vAgg_agg, vTup_tuple, vIfc_nil, vIfc_iface, lC_cons, lN_nil, aP_some, shO_none, shO_some, Option.isNone_none, Option.isNone_some, Bool.not_true, Bool.not_false]
  rw [hne]
  simp only [oB_some, bC_true, bC_false, vInt_int, vBool_bool, vStr_string, vPtr_pointer, vSl_slice, vMap_map, vFun_func, vAgg_agg, vTup_tuple, vIfc_nil, vIfc_iface, lC_cons, lN_nil, aP_some, shO_none, shO_some, Option.isNone_none, Option.isNone_some, Bool.not_true, Bool.not_false]
  refine w_rd O W 0 (j := 0) rfl rfl ?_
  simp only [oB_some, bC_true, bC_false, vInt_int, vBool_bool, vStr_string, vPtr_pointer, vSl_slice, vMap_map, vFun_func, vAgg_agg, vTup_tuple, vIfc_nil, vIfc_iface, lC_cons, lN_nil, aP_some, shO_none, shO_some, Option.isNone_none, Option.isNone_some, Bool.not_true, Bool.not_false]
  rw [hne]
  simp only [oB_some, bC_true, bC_false, vInt_int, vBool_bool, vStr_string, vPtr_pointer, vSl_slice, vMap_map, vFun_func, vAgg_agg, vTup_tuple, vIfc_nil, vIfc_iface, lC_cons, lN_nil, aP_some, shO_none, shO_some, Option.isNone_none, Option.isNone_some, Bool.not_true, Bool.not_false]
  have e1 : Int.tmod (IntKind.wrap .i64 (Int.tmod n (I.slots.length : Int) + (I.slots.length : Int))) (I.slots.length : Int) = ((pickAt I.slots.length n : Nat) : Int) := by
    rw [wrap_sm (n := Int.tmod n (I.slots.length : Int) + (I.slots.length : Int)) (by omega) (by omega)]
    split at h1
    · rw [h1, tmod_nat, Nat.mod_eq_of_lt ha]
    · rw [h1, show ((pickAt I.slots.length n : Nat) : Int) + (I.slots.length : Int) = ((pickAt I.slots.length n + I.slots.length : Nat) : Int) from by omega, tmod_nat, Nat.add_mod_right, Nat.mod_eq_of_lt ha]
  rw [e1, wrap_sm (n := ((pickAt I.slots.length n : Nat) : Int) + (i : Int)) (by omega) (by omega), show ((pickAt I.slots.length n : Nat) : Int) + (i : Int) = ((pickAt I.slots.length n + i : Nat) : Int) from by omega, tmod_nat]
  have hm : (pickAt I.slots.length n + i) % I.slots.length < I.slots.length := Nat.mod_lt _ hw
  refine sat1 (w_sl O W 5 rfl) rfl rfl hm ?_
  rw [show I.slots.getD ((pickAt I.slots.length n + i) % I.slots.length) e0 = I.slots[(pickAt I.slots.length n + i) % I.slots.length] from by simp [List.getD_eq_getElem?_getD, hm]] at hq
  exact hq
theorem i_pick_loop {I : IM} {n : Int} {b1 b2 b3 : Nat} {ρ0 : Store} {cs : List Nat} {s : Str} (O : Own h μ ρ) (W : Pcs ρ0 ρ cs (boxes I n b1 b2 b3 ++ I.rs)) (hw : 0 < I.slots.length) (hl : I.slots.length ≤ 1000) (hq : Q (.tuple ⟨[.string s, .bool true]⟩) h) :
    ∀ (d i : Nat), I.slots.length - i = d → i ≤ I.slots.length → pickFrom I.slots (pickAt I.slots.length n) d i = some s →
    unitAt P f_p_sched_Sched_Pick 6 [7, 8] [.func (.func f_p_sched_Sched_Pick_fn1) ⟨[]⟩ ⟨[.pointer (some ⟨b1, 0, none⟩), .pointer (some ⟨b2, 0, none⟩), .pointer (some ⟨b3, 0, none⟩)]⟩, .int .i64 (i : Int)] h Q := by
  intro d
  induction d with
  | zero => intro i hd hi hs; simp [pickFrom] at hs
  | succ d ih =>
    intro i hd hi hs
    refine r_p_sched_Sched_Pick_6 ?_
    refine pick_fn O W hw hl hi ?_
    simp only [oB_some, bC_true, bC_false, vInt_int, vBool_bool, vStr_string, vPtr_pointer, vSl_slice, vMap_map, vFun_func, vAgg_agg, vTup_tuple, vIfc_nil, vIfc_iface, lC_cons, lN_nil, aP_some, shO_none, shO_some, Option.isNone_none, Option.isNone_some, Bool.not_true, Bool.not_false]
    rw [pickFrom] at hs
    refine bC_iff (fun e => ?_) (fun e => ?_)
    · rw [if_pos (bEq_iff.1 e)] at hs
      rw [wrapS (by omega)]
      exact ih (i + 1) (by omega) (by omega) hs
    · rw [if_neg (bEq_false.1 e)] at hs
      refine pick_fn O W hw hl hi ?_
      simp only [oB_some, bC_true, bC_false, vInt_int, vBool_bool, vStr_string, vPtr_pointer, vSl_slice, vMap_map, vFun_func, vAgg_agg, vTup_tuple, vIfc_nil, vIfc_iface, lC_cons, lN_nil, aP_some, shO_none, shO_some, Option.isNone_none, Option.isNone_some, Bool.not_true, Bool.not_false]
      cases hs
      exact hq
theorem i_pick_ok {I : IM} {n : Int} (O : Own h μ ρ) (R : ImpAt ρ I) (hw : 0 < I.slots.length) (hl : I.slots.length ≤ 1000) (hm : manyOf I.ts 2 = 0 ↔ pickFrom I.slots (pickAt I.slots.length n) I.slots.length 0 = none)
    (hq : ∀ h' μ' ρ', Own h' μ' ρ' → Pcs ρ ρ' I.ns I.rs → Q (ipickV I.slots n) h') : EvQ P f_p_sched_Sched_Pick [.pointer (some ⟨I.p, 0, none⟩), .int .i64 n] h Q := by
  refine r_p_sched_Sched_Pick ?_
  obtain ⟨μ1, ρ1, c1, O1, W1, hc1⟩ := w_new O R [.pointer (some ⟨I.p, 0, none⟩)]
  obtain ⟨μ2, ρ2, c2, O2, W2, hc2⟩ := w_new O1 W1 [.int .i64 n]
  refine w_rd O2 W2 1 (j := 0) rfl rfl ?_
  simp only [oB_some, bC_true, bC_false, vInt_int, vBool_bool, vStr_string, vPtr_pointer, vSl_slice, vMap_map, vFun_func, vAgg_agg, vTup_tuple, vIfc_nil, vIfc_iface, lC_cons, lN_nil, aP_some, shO_none, shO_some, Option.isNone_none, Option.isNone_some, Bool.not_true, Bool.not_false]
  refine w_rd O2 W2 1 (j := 0) rfl rfl ?_
  simp only [oB_some, bC_true, bC_false, vInt_int, vBool_bool, vStr_string, vPtr_pointer, vSl_slice, vMap_map, vFun_func, vAgg_agg, vTup_tuple, vIfc_nil, vIfc_iface, lC_cons, lN_nil, aP_some, shO_none, shO_some, Option.isNone_none, Option.isNone_some, Bool.not_true, Bool.not_false]
  rw [show natIdx 2 5 = some 2 from rfl]
  simp only [oB_some, bC_true, bC_false, vInt_int, vBool_bool, vStr_string, vPtr_pointer, vSl_slice, vMap_map, vFun_func, vAgg_agg, vTup_tuple, vIfc_nil, vIfc_iface, lC_cons, lN_nil, aP_some, shO_none, shO_some, Option.isNone_none, Option.isNone_some, Bool.not_true, Bool.not_false]
  refine w_rd O2 W2 2 (j := 5) rfl rfl ?_
  simp only [oB_some, bC_true, bC_false, vInt_int, vBool_bool, vStr_string, vPtr_pointer, vSl_slice, vMap_map, vFun_func, vAgg_agg, vTup_tuple, vIfc_nil, vIfc_iface, lC_cons, lN_nil, aP_some, shO_none, shO_some, Option.isNone_none, Option.isNone_some, Bool.not_true, Bool.not_false]
  refine bC_iff (fun e => ?_) (fun e => ?_)
  · have e : manyOf I.ts 2 = 0 := by simpa using e
    have hn := hm.1 e
    have := hq _ _ _ O2 ((W2.tail hc2).tail hc1)
    unfold ipickV at this
    rw [hn] at this; exact this
  · have e : ¬ manyOf I.ts 2 = 0 := by simpa using e
    obtain ⟨s, hs⟩ : ∃ s, pickFrom I.slots (pickAt I.slots.length n) I.slots.length 0 = some s := by
      cases hx : pickFrom I.slots (pickAt I.slots.length n) I.slots.length 0 with
      | none => exact absurd (hm.2 hx) e
      | some s => exact ⟨s, rfl⟩
    refine w_rd O2 W2 1 (j := 0) rfl rfl ?_
    simp only [oB_some, bC_true, bC_false, vInt_int, vBool_bool, vStr_string, vPtr_pointer, vSl_slice, vMap_map, vFun_func, vAgg_agg, vTup_tuple, vIfc_nil, vIfc_iface, lC_cons, lN_nil, aP_some, shO_none, shO_some, Option.isNone_none, Option.isNone_some, Bool.not_true, Bool.not_false]
    refine w_rd O2 W2 2 (j := 1) rfl rfl ?_
    simp only [oB_some, bC_true, bC_false, vInt_int, vBool_bool, vStr_string, vPtr_pointer, vSl_slice, vMap_map, vFun_func, vAgg_agg, vTup_tuple, vIfc_nil, vIfc_iface, lC_cons, lN_nil, aP_some, shO_none, shO_some, Option.isNone_none, Option.isNone_some, Bool.not_true, Bool.not_false]
    obtain ⟨μ3, ρ3, c3, O3, W3, hc3⟩ := w_new O2 W2 [.int .i64 0]
    refine w_wr O3 W3 0 (j := 0) rfl (by simp) rfl fun h4 ρ4 O4 W4 => ?_
    refine i_pick_loop (I := I) (n := n) O4 W4 hw hl ?_ _ 0 rfl (by omega) hs
    have := hq _ _ _ O4 (((W4.tail hc3).tail hc2).tail hc1)
    unfold ipickV at this
    rw [hs] at this; exact this

abbrev startM (t : MT) : MT := { t with st := 2, starts := t.starts + 1 }
theorem ifillAt_idle {m : MI} {out : List Str} {i : Nat} (hi : i < m.slots.length) (hs : m.slots[i] ≠ e0) : ifillAt m out i = (m, out) := by
  unfold ifillAt; rw [List.getElem?_eq_getElem hi]; simp only; rw [if_neg hs]
theorem ifillAt_nil {m : MI} {out : List Str} {i : Nat} (hq : m.queue = []) : ifillAt m out i = (m, out) := by
  unfold ifillAt; split
  · split
    · rw [hq]
    · rfl
  · rfl
theorem ifillAt_go {m : MI} {out : List Str} {i : Nat} (hi : i < m.slots.length) (hs : m.slots[i] = e0) {k : Str} {q : List Str} (hq : m.queue = k :: q) :
    ifillAt m out i = (⟨mupL m.tasks k startM, m.slots.set i k, q⟩, out ++ [k]) := by
  unfold ifillAt; rw [List.getElem?_eq_getElem hi]; simp only; rw [if_pos hs, hq]
theorem mupL_set {l : List MT} {k : Str} {f : MT → MT} (hn : (mkeys l).Nodup) {j : Nat} {t : MT} (ht : l[j]? = some t) (hk : t.key = k) : l.set j (f t) = mupL l k f := by
  apply List.ext_getElem?
  intro i
  rw [List.getElem?_set]
  unfold mupL
  rw [List.getElem?_map]
  obtain ⟨hj, ej⟩ := List.getElem?_eq_some_iff.1 ht
  by_cases e : j = i
  · subst e
    rw [if_pos rfl, if_pos hj, ht]; simp [hk]
  · rw [if_neg e]
    cases hi : l[i]? with
    | none => rfl
    | some t' =>
      have : t'.key ≠ k := fun e2 => by
        obtain ⟨hi', ei⟩ := List.getElem?_eq_some_iff.1 hi
        have h1 : i < (mkeys l).length := by simpa [mkeys] using hi'
        have h2 : j < (mkeys l).length := by simpa [mkeys] using hj
        have := (List.getElem_inj (h₀ := h1) (h₁ := h2) hn).1 (by simp [mkeys, ei, ej, e2, hk])
        exact e this.symm
      simp [this]
theorem mupL_keys {k : Str} {f : MT → MT} (hf : ∀ t, (f t).key = t.key) (l : List MT) : mkeys (mupL l k f) = mkeys l := by
  unfold mkeys mupL
  rw [List.map_map]
  refine List.map_congr_left fun t _ => ?_
  simp only [Function.comp]
  split
  · exact hf t
  · rfl
theorem mget_keys : ∀ {l l' : List MT} (k : Str), mkeys l = mkeys l' → (mget l k).isSome = (mget l' k).isSome
  | [], [], k, _ => rfl
  | t :: l, t' :: l', k, h => by
    simp only [mkeys, List.map_cons, List.cons.injEq] at h
    have := mget_keys (l := l) (l' := l') k h.2
    unfold mget at *
    rw [List.find?_cons, List.find?_cons, h.1]
    cases bEq t'.key k
    · exact this
    · rfl
  | [], _ :: _, k, h => by simp [mkeys] at h
  | _ :: _, [], k, h => by simp [mkeys] at h
/-- What Fill wants to know. -/
structure FillI (m : MI) (n : Nat) : Prop where
  nodup : (mkeys m.tasks).Nodup
  known : ∀ k, k ∈ m.queue → ∃ t, mget m.tasks k = some t
  st : ∀ t, t ∈ m.tasks → 1 ≤ t.st ∧ t.st ≤ 4
  small : ∀ t, t ∈ m.tasks → t.starts + n ≤ 1000000
  nt : m.tasks.length ≤ 1000000
  nq : m.queue.length ≤ 1000000
theorem FillI.step {m : MI} {n i : Nat} {out : List Str} (K : FillI m (n + 1)) : FillI (ifillAt m out i).1 n := by
  have same : FillI m n := ⟨K.nodup, K.known, K.st, fun t ht => by have := K.small t ht; omega, K.nt, K.nq⟩
  unfold ifillAt
  split
  · split
    · split
      · rename_i k q hq
        have hkeys : mkeys (mupL m.tasks k startM) = mkeys m.tasks := mupL_keys (f := startM) (fun _ => rfl) _
        refine ⟨by rw [hkeys]; exact K.nodup, fun k' hk' => ?_, fun t ht => ?_, fun t ht => ?_, by simpa [mupL] using K.nt, by have := K.nq; rw [hq] at this; simp at this ⊢; omega⟩
        · obtain ⟨t, ht⟩ := K.known k' (by rw [hq]; exact List.mem_cons_of_mem _ hk')
          have := mget_keys k' hkeys
          rw [ht] at this
          exact Option.isSome_iff_exists.1 (by simpa using this)
        · obtain ⟨t', h1, rfl⟩ := List.mem_map.1 ht
          have := K.st t' h1
          split
          · simp only; omega
          · exact this
        · obtain ⟨t', h1, rfl⟩ := List.mem_map.1 ht
          have := K.small t' h1
          split
          · simp only; omega
          · omega
      · exact same
    · exact same
  · exact same

theorem i_fill_loop {co p : Nat} {ns : List Nat} {sa : Option Addr} {sc w : Nat} : ∀ (n i : Nat) {h : AW} {μ : Paint} {ρ : Store} {I : IM} {out : List Str} {oa : Option Addr} {oc : Nat}, w - i = n → i ≤ w → w ≤ 1000 → I.slots.length = w → out.length ≤ i → I.ns = ns → I.p = p → I.sa = sa → FillI I.m n →
    Own h μ ρ → Pcs ρ ρ (co :: ns) (.sl oa oc 1 (strs out) :: I.rs) →
    (∀ h' μ' ρ' (I' : IM) oa' oc', Own h' μ' ρ' → Pcs ρ ρ' (co :: ns) (.sl oa' oc' 1 (strs (ifillFrom n I.m out i).2) :: I'.rs) → I'.m = (ifillFrom n I.m out i).1 → I'.ns = ns → I'.p = p → Q (.slice oa' (ifillFrom n I.m out i).2.length oc') h') →
    unitAt P f_p_sched_Sched_Fill 5 [0, 3, 13, 14, 15] [.pointer (some ⟨p, 0, none⟩), .slice oa out.length oc, .slice sa w sc, .int .i64 (w : Int), .int .i64 (i : Int)] h Q := by
  intro n
  induction n with
  | zero =>
    intro i h μ ρ I out oa oc hn hi hw hsl ho hns hp hsa K O W hq
    refine r_p_sched_Sched_Fill_5 ?_
    rw [geI (by omega)]
    simp only [oB_some, bC_true, bC_false, vInt_int, vBool_bool, vStr_string, vPtr_pointer, vSl_slice, vMap_map, vFun_func, vAgg_agg, vTup_tuple, vIfc_nil, vIfc_iface, lC_cons, lN_nil, aP_some, shO_none, shO_some, Option.isNone_none, Option.isNone_some, Bool.not_true, Bool.not_false]
    exact hq _ _ _ I _ _ O W rfl hns hp
  | succ n ih =>
    intro i h μ ρ I out oa oc hn hi hw hsl ho hns hp hsa K O W hq
    subst hp hsa
    have hlt : i < I.slots.length := by omega
    refine r_p_sched_Sched_Fill_5 ?_
    rw [ltI (by omega)]
    simp only [oB_some, bC_true, bC_false, vInt_int, vBool_bool, vStr_string, vPtr_pointer, vSl_slice, vMap_map, vFun_func, vAgg_agg, vTup_tuple, vIfc_nil, vIfc_iface, lC_cons, lN_nil, aP_some, shO_none, shO_some, Option.isNone_none, Option.isNone_some, Bool.not_true, Bool.not_false]
    refine sat1 (w_sl O W 3 rfl) rfl hsl.symm hlt ?_
    rw [wrapS (by omega)]
    have skip : ifillAt I.m out i = (I.m, out) → unitAt P f_p_sched_Sched_Fill 5 [0, 3, 13, 14, 15] [.pointer (some ⟨I.p, 0, none⟩), .slice oa out.length oc, .slice I.sa w sc, .int .i64 (w : Int), .int .i64 ((i + 1 : Nat) : Int)] h Q := by
      intro e
      have e2 : ifillFrom (n + 1) I.m out i = ifillFrom n I.m out (i + 1) := by rw [ifillFrom, e]
      rw [e2] at hq
      have K' := K.step (i := i) (out := out)
      rw [e] at K'
      exact ih (i + 1) (by omega) (by omega) hw hsl (by omega) hns rfl rfl K' O W hq
    refine bC_iff (fun e => skip (ifillAt_idle (m := I.m) hlt (show I.slots[i] ≠ e0 from bEq_false.1 (by simpa using e)))) (fun e => ?_)
    have e : I.slots[i] = e0 := by simpa [bEq_iff] using e
    refine w_rd O W 1 (j := 2) rfl rfl ?_
    simp only [oB_some, bC_true, bC_false, vInt_int, vBool_bool, vStr_string, vPtr_pointer, vSl_slice, vMap_map, vFun_func, vAgg_agg, vTup_tuple, vIfc_nil, vIfc_iface, lC_cons, lN_nil, aP_some, shO_none, shO_some, Option.isNone_none, Option.isNone_some, Bool.not_true, Bool.not_false]
    refine bC_iff (fun eq => skip (ifillAt_nil (m := I.m) (List.eq_nil_of_length_eq_zero (by simp at eq; simpa [IM.m] using eq)))) (fun eq => ?_)
    obtain ⟨k, q, hkq⟩ : ∃ k q, I.queue = k :: q := by
      cases hx : I.queue with
      | nil => rw [hx] at eq; simp at eq
      | cons k q => exact ⟨k, q, rfl⟩
    have hql : I.queue.length = q.length + 1 := by rw [hkq]; rfl
    refine w_rd O W 1 (j := 2) rfl rfl ?_
    simp only [oB_some, bC_true, bC_false, vInt_int, vBool_bool, vStr_string, vPtr_pointer, vSl_slice, vMap_map, vFun_func, vAgg_agg, vTup_tuple, vIfc_nil, vIfc_iface, lC_cons, lN_nil, aP_some, shO_none, shO_some, Option.isNone_none, Option.isNone_some, Bool.not_true, Bool.not_false]
    refine sat1 (j := 0) (w_sl O W 4 rfl) rfl rfl (by omega) ?_
    rw [show I.queue[0]'(by omega) = k from by simp [hkq]]
    refine w_rd O W 1 (j := 2) rfl rfl ?_
    simp only [oB_some, bC_true, bC_false, vInt_int, vBool_bool, vStr_string, vPtr_pointer, vSl_slice, vMap_map, vFun_func, vAgg_agg, vTup_tuple, vIfc_nil, vIfc_iface, lC_cons, lN_nil, aP_some, shO_none, shO_some, Option.isNone_none, Option.isNone_some, Bool.not_true, Bool.not_false]
    rw [show natBnd 1 I.queue.length = some 1 from natBnd_eq (j := 1) (by omega)]
    have hcap := w_cap O W 4 rfl
    simp only [List.length_map, Nat.mul_one] at hcap
    simp only [oB_some, bC_true, bC_false, vInt_int, vBool_bool, vStr_string, vPtr_pointer, vSl_slice, vMap_map, vFun_func, vAgg_agg, vTup_tuple, vIfc_nil, vIfc_iface, lC_cons, lN_nil, aP_some, shO_none, shO_some, Option.isNone_none, Option.isNone_some, Bool.not_true, Bool.not_false, Nat.ble_eq_true_of_le hcap]
    refine w_drop O W 4 rfl (k := 1) (by omega) fun qa ρ1 O1 W1 => ?_
    refine w_wr O1 W1 1 (j := 2) rfl (by simp [IM.head]) rfl fun h2 ρ2 O2 W2 => ?_
    refine w_rd O2 W2 1 (j := 1) rfl rfl ?_
    simp only [oB_some, bC_true, bC_false, vInt_int, vBool_bool, vStr_string, vPtr_pointer, vSl_slice, vMap_map, vFun_func, vAgg_agg, vTup_tuple, vIfc_nil, vIfc_iface, lC_cons, lN_nil, aP_some, shO_none, shO_some, Option.isNone_none, Option.isNone_some, Bool.not_true, Bool.not_false]
    refine w_i1_wr O2 W2 3 rfl rfl (by simp) (by simpa using hlt) rfl fun h3 ρ3 O3 W3 => ?_
    have e1 : (strs I.queue).drop (1 * 1) = strs q := by rw [hkq]; rfl
    let I1 : IM := { I with slots := I.slots.set i k, queue := q, qa := qa, qc := I.qc - 1 }
    have W3 : Pcs ρ ρ3 (co :: ns) (.sl oa oc 1 (strs out) :: I1.rs) := W3.eq (by
      simp [I1, IM.head, IM.ts, e1, hql, List.map_set])
    obtain ⟨t0, ht0⟩ := K.known k (by show k ∈ I.queue; rw [hkq]; simp)
    obtain ⟨x, hx⟩ : ∃ x, iget I.t k = some x := by
      have := iget_m I.t k
      cases hx : iget I.t k with
      | none => rw [hx] at this; rw [show mget I.m.tasks k = none from this] at ht0; cases ht0
      | some x => exact ⟨x, rfl⟩
    obtain ⟨hxk, j, hxj, hjl⟩ := iget_at hx
    have hmem : x.m ∈ I.ts := List.mem_map.2 ⟨x, List.mem_of_getElem? hxj, rfl⟩
    have hst := K.st x.m hmem
    refine w_rd O3 W3 1 (j := 0) rfl rfl ?_
    simp only [oB_some, bC_true, bC_false, vInt_int, vBool_bool, vStr_string, vPtr_pointer, vSl_slice, vMap_map, vFun_func, vAgg_agg, vTup_tuple, vIfc_nil, vIfc_iface, lC_cons, lN_nil, aP_some, shO_none, shO_some, Option.isNone_none, Option.isNone_some, Bool.not_true, Bool.not_false]
    refine i_look (l := I.t) O3 W3 2 rfl k ?_
    simp only [hx, Option.map_some, oB_some, bC_true, bC_false, vInt_int, vBool_bool, vStr_string, vPtr_pointer, vSl_slice, vMap_map, vFun_func, vAgg_agg, vTup_tuple, vIfc_nil, vIfc_iface, lC_cons, lN_nil, aP_some, shO_none, shO_some, Option.isNone_none, Option.isNone_some, Bool.not_true, Bool.not_false]
    have R3 : Pcs ρ3 ρ3 I1.ns I1.rs := (W3.self.tail').names hns.symm
    refine i_turn_ok (I := I1) (b := 2) O3 R3 (x := x) hxj (by omega) (by omega) (by omega) (by omega) (by simpa [IM.m, IM.ts] using K.nt) fun h4 ρ4 O4 R4 => ?_
    have hns1 : (I1.up j (x.as 2)).ns = ns := by rw [← hns]; simp [I1, ns_set (x' := x.as 2) hxj rfl]
    have W4 : Pcs ρ ρ4 (co :: ns) (.sl oa oc 1 (strs out) :: (I1.up j (x.as 2)).rs) := by
      refine ⟨W3.nodup, ?_, fun i' c r hc hr => ?_, fun c r hn hc => ?_⟩
      · have := R4.len; rw [hns1] at this; simp only [List.length_cons, this]
      · cases i' with
        | zero =>
          have := W3.at_ 0 c r hc hr
          simp at hc hr
          refine R4.fra c r ?_ this
          rw [← hc]
          intro hm
          rw [hns1] at hm
          exact (List.nodup_cons.1 W3.nodup).1 hm
        | succ i' => exact R4.at_ i' c r (by rw [hns1]; simpa using hc) (by simpa using hr)
      · refine R4.fra c r (fun hm => hn ?_) (W3.fra c r hn hc)
        rw [hns1] at hm
        exact List.mem_cons_of_mem _ hm
    have hxj4 : (I1.up j (x.as 2)).t[j]? = some (x.as 2) := by simp [I1, hjl]
    have hr4 : (Res.sl oa oc 1 (strs out) :: (I1.up j (x.as 2)).rs)[5 + (j * 2 + 0)]? = some (.var x.id (x.as 2).cells) := by
      rw [show 5 + (j * 2 + 0) = (4 + (j * 2 + 0)) + 1 from by omega, List.getElem?_cons_succ]
      exact t_rs hxj4 (by omega)
    refine w_rd O4 W4 (5 + (j * 2 + 0)) (j := 3) hr4 rfl ?_
    simp only [oB_some, bC_true, bC_false, vInt_int, vBool_bool, vStr_string, vPtr_pointer, vSl_slice, vMap_map, vFun_func, vAgg_agg, vTup_tuple, vIfc_nil, vIfc_iface, lC_cons, lN_nil, aP_some, shO_none, shO_some, Option.isNone_none, Option.isNone_some, Bool.not_true, Bool.not_false]
    rw [wrapS (j := x.m.starts) (by have := K.small x.m hmem; omega)]
    refine w_wr O4 W4 (5 + (j * 2 + 0)) (j := 3) hr4 (show 3 < 4 by omega) rfl fun h5 ρ5 O5 W5 => ?_
    let x' : IT := { x with m := startM x.m }
    let I' : IM := I1.up j x'
    have hm : (ifillAt I.m out i) = (I'.m, out ++ [k]) := by
      rw [ifillAt_go (m := I.m) hlt e hkq]
      simp only [I', I1, IM.m, up_ts, Prod.mk.injEq, and_true, MI.mk.injEq]
      exact (mupL_set (t := x.m) (f := startM) K.nodup (show I.ts[j]? = some x.m by simp [IM.ts, hxj]) hxk).symm
    have hns' : I'.ns = ns := (congrArg (fun l => I.n0 :: I.n1 :: I.n2 :: I.n3 :: l) (ns_set (x' := x') hxj rfl)).trans hns
    have W5 : Pcs ρ ρ5 (co :: ns) (.sl oa oc 1 (strs out) :: I'.rs) := W5.eq (by
      rw [show 5 + (j * 2 + 0) = (4 + (j * 2 + 0)) + 1 from by omega, List.set_cons_succ, t_set (x' := x') hxj4 (by omega) rfl]
      have h1 : (I1.up j (x.as 2)).head = I'.head := by
        have h1 := fun s => manyOf_set (l := I.ts) (j := j) (t := x.m) (t' := (x.as 2).m) (by simp [IM.ts, hxj]) (by omega) (show (2 : Nat) ≠ 0 by omega) s
        have h2 := fun s => manyOf_set (l := I.ts) (j := j) (t := x.m) (t' := x'.m) (by simp [IM.ts, hxj]) (by omega) (show (2 : Nat) ≠ 0 by omega) s
        have h3 : (I1.up j (x.as 2)).ts = I.ts.set j (x.as 2).m := up_ts
        have h4 : I'.ts = I.ts.set j x'.m := up_ts
        unfold IM.head
        rw [h3, h4]
        simp only [h1, h2]
        rfl
      have h2 : ents ((I1.up j (x.as 2)).t) = ents I'.t := by
        show ents (I.t.set j (x.as 2)) = ents (I.t.set j x')
        rw [up_ents (x' := x.as 2) hxj rfl rfl, up_ents (x' := x') hxj rfl rfl]
      rw [h1, h2]
      simp [I', I1])
    obtain ⟨μ6, ρ6, c6, O6, W6, hc6⟩ := w_block O5 W5 (strs [k]) (n := 1) (sz := 1) rfl rfl
    refine w_app (P := P) O6 W6 1 ti_ty_sl_string ti_ty_string (by decide) rfl (by simp) (w_sl O6 W6 0 rfl) rfl rfl (by omega) (by omega) fun oa' oc' h7 μ7 ρ7 O7 W7 => ?_
    simp only [oB_some, bC_true, bC_false, vInt_int, vBool_bool, vStr_string, vPtr_pointer, vSl_slice, vMap_map, vFun_func, vAgg_agg, vTup_tuple, vIfc_nil, vIfc_iface, lC_cons, lN_nil, aP_some, shO_none, shO_some, Option.isNone_none, Option.isNone_some, Bool.not_true, Bool.not_false]
    have W7 : Pcs ρ ρ7 (co :: ns) (.sl oa' oc' 1 (strs (out ++ [k])) :: I'.rs) := (W7.tail hc6).eq (by simp)
    have e2 : ifillFrom (n + 1) I.m out i = ifillFrom n I'.m (out ++ [k]) (i + 1) := by rw [ifillFrom, hm]
    rw [e2] at hq
    have K' := K.step (i := i) (out := out)
    rw [hm] at K'
    rw [show out.length + 1 = (out ++ [k]).length from by simp]
    refine ih (i + 1) (I := I') (by omega) (by omega) hw (by simp [I', I1]; exact hsl) (by simp; omega) hns' rfl rfl K' O7 W7.self ?_
    intro h' μ' ρ' J oa'' oc'' O' W' a b c
    exact hq h' μ' ρ' J oa'' oc'' O' (W'.back W7.fra) a b c
theorem i_fill_ok {I : IM} (O : Own h μ ρ) (R : ImpAt ρ I) (hsl : I.slots.length ≤ 1000) (K : FillI I.m I.slots.length)
    (hq : ∀ h' μ' ρ' (I' : IM) co oa oc, Own h' μ' ρ' → Pcs ρ ρ' (co :: I.ns) (.sl oa oc 1 (strs (ifillFrom I.slots.length I.m [] 0).2) :: I'.rs) → ρ co = none → I'.m = (ifillFrom I.slots.length I.m [] 0).1 → I'.ns = I.ns → I'.p = I.p → Q (.slice oa (ifillFrom I.slots.length I.m [] 0).2.length oc) h') :
    EvQ P f_p_sched_Sched_Fill [.pointer (some ⟨I.p, 0, none⟩)] h Q := by
  refine r_p_sched_Sched_Fill ?_
  simp only [oB_some, bC_true, bC_false, vInt_int, vBool_bool, vStr_string, vPtr_pointer, vSl_slice, vMap_map, vFun_func, vAgg_agg, vTup_tuple, vIfc_nil, vIfc_iface, lC_cons, lN_nil, aP_some, shO_none, shO_some, Option.isNone_none, Option.isNone_some, Bool.not_true, Bool.not_false]
  refine w_rd O R 0 (j := 1) rfl rfl ?_
  simp only [oB_some, bC_true, bC_false, vInt_int, vBool_bool, vStr_string, vPtr_pointer, vSl_slice, vMap_map, vFun_func, vAgg_agg, vTup_tuple, vIfc_nil, vIfc_iface, lC_cons, lN_nil, aP_some, shO_none, shO_some, Option.isNone_none, Option.isNone_some, Bool.not_true, Bool.not_false]
  obtain ⟨ρ1, co, O1, W1, hco⟩ := w_nil O R 1
  refine i_fill_loop (co := co) (ns := I.ns) (I := I) (out := []) I.slots.length 0 rfl (by omega) hsl rfl (by simp) rfl rfl rfl K O1 (W1.self : Pcs ρ1 ρ1 (co :: I.ns) (.sl none 0 1 (strs []) :: I.rs)) ?_
  intro h' μ' ρ' I' oa' oc' O' W' a b c
  exact hq h' μ' ρ' I' co oa' oc' O' (W'.back W1.fra) hco a b c
end Go.Proofs.YtgdkekdedgkglaaDoor
end

section
/- The scheduler: what its functions come to, fourth part. -/
namespace Go.Proofs.YtgdkekdedgkglaaDoor
open Go.Abs Go.Abs.Sch
set_option maxRecDepth 100000
attribute [local irreducible] unitAt EvQ
variable {h : AW} {μ : Paint} {ρ : Store} {Q : Value → AW → Prop}

/-- No more different things than there are. -/
theorem nodup_le : ∀ {l l' : List Str}, l.Nodup → (∀ x, x ∈ l → x ∈ l') → l.length ≤ l'.length
  | [], l', _, _ => by simp
  | x :: l, l', hn, hs => by
    obtain ⟨s, t, rfl⟩ := List.append_of_mem (hs x (by simp))
    have hn := List.nodup_cons.1 hn
    have := nodup_le (l := l) (l' := s ++ t) hn.2 fun y hy => by
      have := hs y (by simp [hy])
      simp only [List.mem_append, List.mem_cons] at this ⊢
      rcases this with h | h | h
      · exact .inl h
      · subst h; exact absurd hy hn.1
      · exact .inr h
    simp at this ⊢; omega
theorem mget_mem {l : List MT} {k : Str} {t : MT} (h : mget l k = some t) : t ∈ l ∧ t.key = k :=
  ⟨List.mem_of_find?_eq_some h, bEq_iff.1 (by simpa using List.find?_some h)⟩
theorem iget_of {I : IM} {k : Str} {t : MT} (h : mget I.ts k = some t) : ∃ x j, iget I.t k = some x ∧ x.m = t ∧ I.t[j]? = some x ∧ j < I.t.length ∧ x.m.key = k := by
  unfold IM.ts at h
  rw [iget_m] at h
  cases e : iget I.t k with
  | none => rw [e] at h; cases h
  | some x =>
    rw [e] at h
    obtain ⟨a, j, b, c⟩ := iget_at e
    exact ⟨x, j, rfl, by simpa using h, b, c, a⟩
theorem i_circle_loop {key : Str} {I : IM} (hl : I.t.length ≤ 10000) {ρ0 : Store} :
    ∀ (d : Nat) {h : AW} {μ : Paint} {ρ : Store} {at_ : Str} {out : List Str} {co : Nat} {oa : Option Addr} {oc : Nat}, I.t.length + 1 - out.length = d → out.length ≤ I.t.length → out.Nodup → (∀ k, k ∈ out → k ∈ mkeys I.ts) → (∃ t, mget I.ts at_ = some t) →
    (∀ t, t ∈ I.ts → t.st = 3 → ∃ t', mget I.ts t.on = some t') → ρ0 co = none → Own h μ ρ → Pcs ρ0 ρ (co :: I.ns) (.sl oa oc 1 (strs out) :: I.rs) →
    (∀ h' μ' ρ' co oa oc, Own h' μ' ρ' → Pcs ρ0 ρ' (co :: I.ns) (.sl oa oc 1 (strs (match ichase I.ts key d at_ out with | some x => rotL x | none => [])) :: I.rs) → ρ0 co = none → Q (.slice oa (match ichase I.ts key d at_ out with | some x => rotL x | none => []).length oc) h') →
    unitAt P f_p_sched_Sched_circle 3 [0, 1, 5, 6] [.pointer (some ⟨I.p, 0, none⟩), .string key, .slice oa out.length oc, .string at_] h Q := by
  intro d
  have nil : ∀ {h : AW} {μ : Paint} {ρ : Store} {co : Nat} {r : Res}, Own h μ ρ → Pcs ρ0 ρ (co :: I.ns) (r :: I.rs) → ρ0 co = none →
      (∀ h' μ' ρ' co oa oc, Own h' μ' ρ' → Pcs ρ0 ρ' (co :: I.ns) (.sl oa oc 1 (strs []) :: I.rs) → ρ0 co = none → Q (.slice oa 0 oc) h') → Q (.slice none 0 0) h := by
    intro h μ ρ co r O W hco hq
    obtain ⟨ρ1, c1, O1, W1, h1⟩ := w_nil O (W.tail hco) 1
    exact hq _ _ _ _ _ _ O1 W1 h1
  induction d with
  | zero => intro h μ ρ at_ out co oa oc hd ho; omega
  | succ d ih =>
    intro h μ ρ at_ out co oa oc hd ho hnd hkn hat hon hco O W hq
    obtain ⟨t, ht⟩ := hat
    obtain ⟨x, j, hx, hxm, hxj, hjl, hxk⟩ := iget_of ht
    refine r_p_sched_Sched_circle_3 ?_
    simp only [oB_some, bC_true, bC_false, vInt_int, vBool_bool, vStr_string, vPtr_pointer, vSl_slice, vMap_map, vFun_func, vAgg_agg, vTup_tuple, vIfc_nil, vIfc_iface, lC_cons, lN_nil, aP_some, shO_none, shO_some, Option.isNone_none, Option.isNone_some, Bool.not_true, Bool.not_false]
    refine w_rd O W 1 (j := 0) rfl rfl ?_
    simp only [oB_some, bC_true, bC_false, vInt_int, vBool_bool, vStr_string, vPtr_pointer, vSl_slice, vMap_map, vFun_func, vAgg_agg, vTup_tuple, vIfc_nil, vIfc_iface, lC_cons, lN_nil, aP_some, shO_none, shO_some, Option.isNone_none, Option.isNone_some, Bool.not_true, Bool.not_false]
    refine i_look (l := I.t) O W 2 rfl at_ ?_
    simp only [hx, Option.map_some, oB_some, bC_true, bC_false, vInt_int, vBool_bool, vStr_string, vPtr_pointer, vSl_slice, vMap_map, vFun_func, vAgg_agg, vTup_tuple, vIfc_nil, vIfc_iface, lC_cons, lN_nil, aP_some, shO_none, shO_some, Option.isNone_none, Option.isNone_some, Bool.not_true, Bool.not_false]
    have hr4 : (Res.sl oa oc 1 (strs out) :: I.rs)[5 + (j * 2 + 0)]? = some (.var x.id x.cells) := by
      rw [show 5 + (j * 2 + 0) = (4 + (j * 2 + 0)) + 1 from by omega, List.getElem?_cons_succ]
      exact t_rs hxj (by omega)
    refine w_rd O W (5 + (j * 2 + 0)) (j := 0) hr4 rfl ?_
    simp only [oB_some, bC_true, bC_false, vInt_int, vBool_bool, vStr_string, vPtr_pointer, vSl_slice, vMap_map, vFun_func, vAgg_agg, vTup_tuple, vIfc_nil, vIfc_iface, lC_cons, lN_nil, aP_some, shO_none, shO_some, Option.isNone_none, Option.isNone_some, Bool.not_true, Bool.not_false]
    rw [ichase, ht] at hq
    simp only at hq
    rw [hxm]
    refine bC_iff (fun e => ?_) (fun e => ?_)
    · have e : ¬ t.st = 3 := by simp at e; omega
      rw [if_neg e] at hq
      exact nil O W hco hq
    have e : t.st = 3 := by simp at e; omega
    rw [if_pos e] at hq
    refine contains_ok (w_sl O W 0 rfl) (by omega) ?_
    simp only [oB_some, bC_true, bC_false, vInt_int, vBool_bool, vStr_string, vPtr_pointer, vSl_slice, vMap_map, vFun_func, vAgg_agg, vTup_tuple, vIfc_nil, vIfc_iface, lC_cons, lN_nil, aP_some, shO_none, shO_some, Option.isNone_none, Option.isNone_some, Bool.not_true, Bool.not_false]
    refine bC_iff (fun em => ?_) (fun em => ?_)
    · rw [if_pos em] at hq
      exact nil O W hco hq
    rw [if_neg (by simp [em])] at hq
    have em : at_ ∉ out := memB_not.1 em
    obtain ⟨μ1, ρ1, c1, O1, W1, hc1⟩ := w_block O W (strs [at_]) (n := 1) (sz := 1) rfl rfl
    refine w_app (P := P) O1 W1 1 ti_ty_sl_string ti_ty_string (by decide) rfl (by simp) (w_sl O1 W1 0 rfl) rfl rfl (by omega) (by omega) fun oa oc hh2 μ2 ρ2 O2 W2 => ?_
    simp only [oB_some, bC_true, bC_false, vInt_int, vBool_bool, vStr_string, vPtr_pointer, vSl_slice, vMap_map, vFun_func, vAgg_agg, vTup_tuple, vIfc_nil, vIfc_iface, lC_cons, lN_nil, aP_some, shO_none, shO_some, Option.isNone_none, Option.isNone_some, Bool.not_true, Bool.not_false]
    have W2 := (W2.tail hc1).eq (rs' := .sl oa oc 1 (strs (out ++ [at_])) :: I.rs) (by simp)
    have hr4 : (Res.sl oa oc 1 (strs (out ++ [at_])) :: I.rs)[5 + (j * 2 + 0)]? = some (.var x.id x.cells) := by
      rw [show 5 + (j * 2 + 0) = (4 + (j * 2 + 0)) + 1 from by omega, List.getElem?_cons_succ]
      exact t_rs hxj (by omega)
    refine w_rd O2 W2 (5 + (j * 2 + 0)) (j := 1) hr4 rfl ?_
    simp only [oB_some, bC_true, bC_false, vInt_int, vBool_bool, vStr_string, vPtr_pointer, vSl_slice, vMap_map, vFun_func, vAgg_agg, vTup_tuple, vIfc_nil, vIfc_iface, lC_cons, lN_nil, aP_some, shO_none, shO_some, Option.isNone_none, Option.isNone_some, Bool.not_true, Bool.not_false]
    rw [show out.length + 1 = (out ++ [at_]).length from by simp, hxm]
    have hlo : (out ++ [at_]).length = out.length + 1 := by simp
    refine bC_iff (fun e2 => ?_) (fun e2 => ?_)
    · have e2 : t.on = key := bEq_iff.1 e2
      rw [if_pos e2] at hq
      generalize hox : out ++ [at_] = ox at *
      refine min_ok (w_sl O2 W2 0 rfl) (by omega) (by omega) ?_
      simp only [oB_some, bC_true, bC_false, vInt_int, vBool_bool, vStr_string, vPtr_pointer, vSl_slice, vMap_map, vFun_func, vAgg_agg, vTup_tuple, vIfc_nil, vIfc_iface, lC_cons, lN_nil, aP_some, shO_none, shO_some, Option.isNone_none, Option.isNone_some, Bool.not_true, Bool.not_false]
      refine index_ok (w_sl O2 W2 0 rfl) (by omega) ?_
      simp only [oB_some, bC_true, bC_false, vInt_int, vBool_bool, vStr_string, vPtr_pointer, vSl_slice, vMap_map, vFun_func, vAgg_agg, vTup_tuple, vIfc_nil, vIfc_iface, lC_cons, lN_nil, aP_some, shO_none, shO_some, Option.isNone_none, Option.isNone_some, Bool.not_true, Bool.not_false]
      have hidx : idxOf (minS ox) ox = (idxN (minS ox) ox : Nat) ∧ idxN (minS ox) ox < ox.length := by
        have hmem : minS ox ∈ ox := minS_mem (by omega)
        unfold idxOf idxN
        cases hf : ox.findIdx? (fun t => bEq (minS ox) t) with
        | none => have := List.findIdx?_eq_none_iff.1 hf _ hmem; simp at this
        | some j => exact ⟨rfl, (List.findIdx?_eq_some_iff_getElem.1 hf).1⟩
      obtain ⟨hi1, hi2⟩ := hidx
      have hcap := w_cap O2 W2 0 rfl
      simp only [List.length_map, Nat.mul_one] at hcap
      have hrot : rotL ox = ox.drop (idxN (minS ox) ox) ++ ox.take (idxN (minS ox) ox) := rfl
      generalize idxN (minS ox) ox = i at *
      rw [hi1, natBnd_eq (Nat.le_of_lt hi2)]
      simp only [oB_some, bC_true, bC_false, vInt_int, vBool_bool, vStr_string, vPtr_pointer, vSl_slice, vMap_map, vFun_func, vAgg_agg, vTup_tuple, vIfc_nil, vIfc_iface, lC_cons, lN_nil, aP_some, shO_none, shO_some, Option.isNone_none, Option.isNone_some, Bool.not_true, Bool.not_false, Nat.ble_eq_true_of_le hcap]
      obtain ⟨b, off, rfl⟩ : ∃ i off, oa = some ⟨i, off, none⟩ := by
        rcases w_sl O2 W2 0 rfl with ⟨_, e⟩ | ⟨i, off, e, _⟩
        · simp at e; subst e; simp at hlo
        · exact ⟨i, off, e⟩
      rw [natBnd_eq (show i ≤ oc by omega)]
      simp only [oB_some, bC_true, bC_false, vInt_int, vBool_bool, vStr_string, vPtr_pointer, vSl_slice, vMap_map, vFun_func, vAgg_agg, vTup_tuple, vIfc_nil, vIfc_iface, lC_cons, lN_nil, aP_some, shO_none, shO_some, Option.isNone_none, Option.isNone_some, Bool.not_true, Bool.not_false, Nat.ble_eq_true_of_le (show i ≤ oc by omega)]
      obtain ⟨μ3, ρ3, c3, O3, W3, hc3⟩ := w_block O2 W2 [.slice (some ⟨b, off + i * 1, none⟩) (ox.length - i) (oc - i), .slice (some ⟨b, off + 0, none⟩) (i - 0) (oc - 0)] (n := 2) (sz := 1) rfl rfl
      have hc0 : ρ3 co = some (.sl (some ⟨b, off, none⟩) oc 1 (strs ox)) := W3.at_ 1 _ _ rfl rfl
      refine concat_ok (parts := [⟨some ⟨b, off + i * 1, none⟩, oc - i, ox.drop i⟩, ⟨some ⟨b, off + 0, none⟩, oc - 0, ox.take i⟩]) O3 ?_ ?_ ?_ (by simp) ?_
      · refine Rd.of_sl O3 (by simp) (cap := 2) (sz := 1) (c := c3) ?_
        have := W3.at_ 0 _ _ rfl rfl
        rw [this]
        simp [Part.cell]
        omega
      · intro p hp
        simp only [List.mem_cons, List.not_mem_nil, or_false] at hp
        rcases hp with rfl | rfl
        · exact Rd.of_sub (by simp) hc0 ⟨i * 1, ox.length, rfl, by simp [List.take_of_length_le]⟩
        · exact Rd.of_sub (by simp) hc0 ⟨0, i, rfl, by simp [List.map_take]⟩
      · simp [total]; omega
      · intro h4 μ4 ρ4 c4 oa4 oc4 O4 W4 hc4
        simp only [oB_some, bC_true, bC_false, vInt_int, vBool_bool, vStr_string, vPtr_pointer, vSl_slice, vMap_map, vFun_func, vAgg_agg, vTup_tuple, vIfc_nil, vIfc_iface, lC_cons, lN_nil, aP_some, shO_none, shO_some, Option.isNone_none, Option.isNone_some, Bool.not_true, Bool.not_false]
        have hfl : ([⟨some ⟨b, off + i * 1, none⟩, oc - i, ox.drop i⟩, ⟨some ⟨b, off + 0, none⟩, oc - 0, ox.take i⟩] : List Part).flatMap Part.x = rotL ox := by rw [hrot]; simp
        rw [hfl] at W4 ⊢
        have W5 := W3.adopt W4 hc4
        exact hq h4 μ4 ρ4 c4 oa4 oc4 O4 ((W5.tail2 hc3).tail2 hco) (W3.not0 hc4)
    · have e2 : ¬ t.on = key := bEq_false.1 e2
      rw [if_neg e2] at hq
      refine ih (by omega) ?_ ?_ ?_ (hon t (mget_mem ht).1 e) hon hco O2 W2 hq
      · have : (out ++ [at_]).length ≤ (mkeys I.ts).length := nodup_le ?_ ?_
        · simpa [mkeys, IM.ts] using this
        · rw [List.nodup_append]; exact ⟨hnd, by simp, fun a ha b hb => by simp at hb; subst hb; rintro rfl; exact em ha⟩
        · intro k hk
          rcases List.mem_append.1 hk with hk | hk
          · exact hkn k hk
          · simp at hk; subst hk
            exact List.mem_map.2 ⟨t, (mget_mem ht).1, (mget_mem ht).2⟩
      · rw [List.nodup_append]; exact ⟨hnd, by simp, fun a ha b hb => by simp at hb; subst hb; rintro rfl; exact em ha⟩
      · intro k hk
        rcases List.mem_append.1 hk with hk | hk
        · exact hkn k hk
        · simp at hk; subst hk
          exact List.mem_map.2 ⟨t, (mget_mem ht).1, (mget_mem ht).2⟩
theorem t_set2 {l : List IT} {j : Nat} {x x' : IT} {ra rb : Res} (hx : l[j]? = some x) (hr : x'.rs = [ra, rb]) {r0 r1 r2 r3 : Res} :
    ((r0 :: r1 :: r2 :: r3 :: l.flatMap IT.rs).set (4 + (j * 2 + 1)) rb).set (4 + (j * 2 + 0)) ra = r0 :: r1 :: r2 :: r3 :: (l.set j x').flatMap IT.rs := by
  rw [show 4 + (j * 2 + 0) = (j * 2 + 0) + 1 + 1 + 1 + 1 from by omega, show 4 + (j * 2 + 1) = (j * 2 + 1) + 1 + 1 + 1 + 1 from by omega]
  simp only [List.set_cons_succ]
  have hm : ∀ y, y ∈ l.map IT.rs → y.length = 2 := fun y hy => by
    obtain ⟨z, _, rfl⟩ := List.mem_map.1 hy; rfl
  have hj : (l.map IT.rs)[j]? = some x.rs := by simp [hx]
  have hjl : j < l.length := (List.getElem?_eq_some_iff.1 hx).1
  have h2 := flatL_set (k := 0) (v := ra) (by omega : 0 < 2) ((l.map IT.rs).set j (x.rs.set 1 rb)) j (x.rs.set 1 rb) (fun y hy => by
    rcases List.mem_or_eq_of_mem_set hy with h | h
    · exact hm y h
    · rw [h]; rfl) (by simp [hjl])
  rw [Nat.add_zero] at h2
  rw [List.flatMap_def, flatL_set (by omega) _ j _ hm hj, h2, List.flatMap_def, List.map_set, List.set_set, hr]
  rfl
theorem i_circle_ok {key : Str} {I : IM} (hl : I.t.length ≤ 10000) (O : Own h μ ρ) (R : ImpAt ρ I) (hk : ∃ t, mget I.ts key = some t) (hon : ∀ t, t ∈ I.ts → t.st = 3 → ∃ t', mget I.ts t.on = some t')
    (hq : ∀ h' μ' ρ' co oa oc, Own h' μ' ρ' → Pcs ρ ρ' (co :: I.ns) (.sl oa oc 1 (strs (icircle I.ts key)) :: I.rs) → ρ co = none → Q (.slice oa (icircle I.ts key).length oc) h') :
    EvQ P f_p_sched_Sched_circle [.pointer (some ⟨I.p, 0, none⟩), .string key] h Q := by
  refine r_p_sched_Sched_circle ?_
  obtain ⟨ρ1, co, O1, W1, hco⟩ := w_nil O R 1
  have : icircle I.ts key = (match ichase I.ts key (I.t.length + 1) key [] with | some x => rotL x | none => []) := by unfold icircle IM.ts; simp; rfl
  rw [this] at hq
  exact i_circle_loop hl _ (out := []) rfl (by simp) List.nodup_nil (by simp) hk hon hco O1 W1 hq

/-- What Wait wants to know. -/
structure WaitI (m : MI) (key : Str) : Prop where
  nodup : (mkeys m.tasks).Nodup
  st : ∀ t, t ∈ m.tasks → 1 ≤ t.st ∧ t.st ≤ 4
  on : ∀ t, t ∈ m.tasks → t.st = 3 → ∃ t', mget m.tasks t.on = some t'
  slot : mst m.tasks key = 2 → key ∈ m.slots
  ws : ∀ t, t ∈ m.tasks → t.ws.length ≤ 1000000
  nt : m.tasks.length ≤ 1000
  nq : m.queue.length ≤ 100000
  nsl : m.slots.length ≤ 1000
theorem mget_append {l l' : List MT} {k : Str} {t : MT} (h : mget l k = some t) : mget (l ++ l') k = some t := by
  unfold mget at *
  rw [List.find?_append, h]; rfl
theorem mget_mupL {k : Str} {f : MT → MT} (hf : ∀ t, (f t).key = t.key) (k' : Str) : ∀ (l : List MT), mget (mupL l k f) k' = if k' = k then (mget l k').map f else mget l k'
  | [] => by simp [mget, mupL]
  | t :: l => by
    have ih := mget_mupL (k := k) hf k' l
    have hkey : (if t.key = k then f t else t).key = t.key := by split; exact hf t; rfl
    unfold mget mupL at *
    rw [List.map_cons, List.find?_cons, List.find?_cons, hkey]
    by_cases e : t.key = k'
    · subst e
      simp only [bEq_self]
      split <;> simp_all
    · rw [bEq_false.2 e]
      simp only
      rw [ih]
end Go.Proofs.YtgdkekdedgkglaaDoor
end

section
/- The scheduler: waiting. -/
namespace Go.Proofs.YtgdkekdedgkglaaDoor
open Go.Abs Go.Abs.Sch
set_option maxRecDepth 100000
attribute [local irreducible] unitAt EvQ
variable {h : AW} {μ : Paint} {ρ : Store} {Q : Value → AW → Prop}

theorem pcs_notin {ρ0 ρ : Store} {c : Nat} {ns : List Nat} {rs : List Res} (W : Pcs ρ0 ρ (c :: ns) rs) : c ∉ ns := (List.nodup_cons.1 W.nodup).1
theorem isSome_ex {α : Type} {o : Option α} (h : o.isSome = true) : ∃ a, o = some a := Option.isSome_iff_exists.1 h
theorem mkeys_snoc {l : List MT} {t : MT} : mkeys (l ++ [t]) = mkeys l ++ [t.key] := by simp [mkeys]
theorem mget_none {l : List MT} {k : Str} (h : mget l k = none) : k ∉ mkeys l := fun hm => by
  obtain ⟨t, ht, e⟩ := List.mem_map.1 hm
  have := List.find?_eq_none.1 h t ht
  rw [e] at this; simp at this
theorem iwant1_ok {m : MI} {on : Str} (hnd : (mkeys m.tasks).Nodup) : (mkeys (iwant1 m on).tasks).Nodup ∧ (∃ t, mget (iwant1 m on).tasks on = some t) ∧ (∀ k t, mget m.tasks k = some t → mget (iwant1 m on).tasks k = some t) ∧ (iwant1 m on).slots = m.slots ∧
    (∀ t, t ∈ (iwant1 m on).tasks → t ∈ m.tasks ∨ t = newMT on) ∧ (iwant1 m on).tasks.length ≤ m.tasks.length + 1 ∧ (iwant1 m on).queue.length ≤ m.queue.length + 1 := by
  unfold iwant1
  cases e : mget m.tasks on with
  | some t => exact ⟨hnd, ⟨t, e⟩, fun k t h => h, rfl, fun t h => .inl h, by simp, by simp⟩
  | none =>
    refine ⟨?_, ⟨newMT on, ?_⟩, fun k t h => mget_append h, rfl, fun t h => ?_, by simp, by simp⟩
    · simp only
      rw [mkeys_snoc, List.nodup_append]
      refine ⟨hnd, by simp, fun a ha b hb => ?_⟩
      simp at hb; subst hb
      rintro rfl; exact mget_none e ha
    · unfold mget at *
      simp only
      rw [List.find?_append, e]; simp [newMT]
    · simp only [List.mem_append, List.mem_singleton] at h; exact h
theorem i_wait_ok {key on : Str} {I : IM} (O : Own h μ ρ) (R : ImpAt ρ I) (K : WaitI I.m key)
    (hq : ∀ h' μ' ρ' (I' : IM) co oa oc, Own h' μ' ρ' → Pcs ρ' ρ' (co :: I'.ns) (.sl oa oc 1 (strs (iwait I.m key on).1) :: I'.rs) → I'.m = (iwait I.m key on).2.2 → ρ co = none → I'.p = I.p → FrN I.ns ρ I'.ns ρ' →
      Q (.tuple ⟨[.slice oa (iwait I.m key on).1.length oc, .int .i64 ((iwait I.m key on).2.1 : Nat)]⟩) h') :
    EvQ P f_p_sched_Sched_Wait [.pointer (some ⟨I.p, 0, none⟩), .string key, .string on] h Q := by
  have nil : ∀ {n : Nat}, iwait I.m key on = ([], n, I.m) → Q (.tuple ⟨[.slice none 0 0, .int .i64 (n : Nat)]⟩) h := by
    intro n e
    rw [e] at hq
    obtain ⟨ρ1, co, O1, W1, hco⟩ := w_nil O R 1
    exact hq _ _ _ I _ _ _ O1 W1.self rfl hco rfl (FrN.of (W1.tail hco).fra)
  refine r_p_sched_Sched_Wait ?_
  simp only [oB_some, bC_true, bC_false, vInt_int, vBool_bool, vStr_string, vPtr_pointer, vSl_slice, vMap_map, vFun_func, vAgg_agg, vTup_tuple, vIfc_nil, vIfc_iface, lC_cons, lN_nil, aP_some, shO_none, shO_some, Option.isNone_none, Option.isNone_some, Bool.not_true, Bool.not_false]
  refine bC_iff (fun e => ?_) (fun e => ?_)
  · have e : on = e0 := bEq_iff.1 e
    exact nil (by unfold iwait; rw [if_pos e])
  have e1 : ¬ on = e0 := bEq_false.1 e
  refine i_state_ok O R ?_
  simp only [oB_some, bC_true, bC_false, vInt_int, vBool_bool, vStr_string, vPtr_pointer, vSl_slice, vMap_map, vFun_func, vAgg_agg, vTup_tuple, vIfc_nil, vIfc_iface, lC_cons, lN_nil, aP_some, shO_none, shO_some, Option.isNone_none, Option.isNone_some, Bool.not_true, Bool.not_false]
  refine bC_iff (fun e => ?_) (fun e => ?_)
  · have e : mst I.ts key ≠ 2 := by simp at e; omega
    exact nil (by unfold iwait; rw [if_neg e1]; exact if_pos e)
  have e2 : ¬ mst I.ts key ≠ 2 := by simp at e; omega
  refine i_state_ok O R ?_
  simp only [oB_some, bC_true, bC_false, vInt_int, vBool_bool, vStr_string, vPtr_pointer, vSl_slice, vMap_map, vFun_func, vAgg_agg, vTup_tuple, vIfc_nil, vIfc_iface, lC_cons, lN_nil, aP_some, shO_none, shO_some, Option.isNone_none, Option.isNone_some, Bool.not_true, Bool.not_false]
  refine bC_iff (fun e => ?_) (fun e => ?_)
  · have e : mst I.ts on = 4 := by simp at e; omega
    exact nil (by unfold iwait; rw [if_neg e1]; exact (if_neg e2).trans (if_pos e))
  have e3 : ¬ mst I.ts on = 4 := by simp at e; omega
  obtain ⟨μ1, ρ1, c1, O1, W1, hc1⟩ := w_block O R (strs [on]) (n := 1) (sz := 1) rfl rfl
  have X1 : Rd ρ1 I.ns (some ⟨h.next, 0, none⟩) (strs [on]) := Rd.of_sl O1 (List.nodup_cons.1 W1.nodup).1 (W1.at_ 0 _ _ rfl rfl)
  have hnt : I.t.length ≤ 1000 := by simpa [IM.m, IM.ts] using K.nt
  have hnq : I.queue.length ≤ 100000 := K.nq
  refine i_want_ok (I := I) (ks := [on]) (by simp) O1 W1.self.tail' X1 (by simp; omega) (by simp; omega) fun h2 μ2 ρ2 I2 O2 R2 a2 b2 F2 => ?_
  have hwi : (iwant I.m [on]).2 = iwant1 I.m on := by
    unfold iwant
    rw [if_neg (by rw [memB_iff]; simpa using fun x => e1 x.symm)]; rfl
  rw [hwi] at a2
  have F2 : FrN I.ns ρ I2.ns ρ2 := (FrN.of (W1.tail hc1).fra).trans F2
  obtain ⟨hndw, hon2, hk2, hsl2, hmem2, hlen2, hlq2⟩ := iwant1_ok (on := on) K.nodup
  have hwr : iwait I.m key on = (icircle (mupL (mupL I2.ts key fun t => { t with st := 3, on := on }) on fun t => { t with ws := t.ws ++ [key] }) key, 0, ⟨mupL (mupL I2.ts key fun t => { t with st := 3, on := on }) on fun t => { t with ws := t.ws ++ [key] }, ileave I.slots key, I2.queue⟩) := by
    unfold iwait; rw [if_neg e1]
    refine (if_neg e2).trans ((if_neg e3).trans ?_)
    simp only
    rw [hsl2, ← a2]
    rfl
  rw [hwr] at hq
  -- the task
  obtain ⟨t0, ht0, hst0⟩ : ∃ t, mget I.ts key = some t ∧ t.st = 2 := by
    unfold mst at e2
    cases hx : mget I.ts key with
    | none => rw [hx] at e2; simp at e2
    | some t => rw [hx] at e2; exact ⟨t, rfl, by simpa using e2⟩
  have ht2 : mget I2.ts key = some t0 := by
    have := hk2 key t0 ht0
    rw [← a2] at this; exact this
  have hnd2 : (mkeys I2.ts).Nodup := by rw [← a2] at hndw; exact hndw
  have hmem2 : ∀ t, t ∈ I2.ts → t ∈ I.ts ∨ t = newMT on := by rw [← a2] at hmem2; exact hmem2
  have hsl2 : I2.slots = I.slots := by rw [← a2] at hsl2; exact hsl2
  have hlen2 : I2.t.length ≤ 1001 := by
    rw [← a2] at hlen2
    have : (I2.m.tasks).length = I2.t.length := by simp [IM.m, IM.ts]
    have h3 : I.m.tasks.length ≤ 1000 := K.nt
    omega
  have hst2 : ∀ t, t ∈ I2.ts → 1 ≤ t.st ∧ t.st ≤ 4 := fun t ht => by
    rcases hmem2 t ht with x | x
    · exact K.st t x
    · subst x; simp [newMT]
  have hws2 : ∀ t, t ∈ I2.ts → t.ws.length ≤ 1000000 := fun t ht => by
    rcases hmem2 t ht with x | x
    · exact K.ws t x
    · subst x; simp [newMT]
  have hon2 : ∃ t, mget I2.ts on = some t := by rw [← a2] at hon2; exact hon2
  have hw3 : ∀ t, t ∈ I2.ts → t.st = 3 → ∃ t', mget I2.ts t.on = some t' := fun t ht h3 => by
    rcases hmem2 t ht with x | x
    · obtain ⟨t', h'⟩ := K.on t x h3
      have := hk2 _ _ h'
      rw [← a2] at this
      exact ⟨t', this⟩
    · subst x; simp [newMT] at h3
  obtain ⟨x, j, hx, hxm, hxj, hjl, hxk⟩ := iget_of ht2
  rw [← b2]
  simp only [oB_some, bC_true, bC_false, vInt_int, vBool_bool, vStr_string, vPtr_pointer, vSl_slice, vMap_map, vFun_func, vAgg_agg, vTup_tuple, vIfc_nil, vIfc_iface, lC_cons, lN_nil, aP_some, shO_none, shO_some, Option.isNone_none, Option.isNone_some, Bool.not_true, Bool.not_false]
  refine w_rd O2 R2 0 (j := 0) rfl rfl ?_
  simp only [oB_some, bC_true, bC_false, vInt_int, vBool_bool, vStr_string, vPtr_pointer, vSl_slice, vMap_map, vFun_func, vAgg_agg, vTup_tuple, vIfc_nil, vIfc_iface, lC_cons, lN_nil, aP_some, shO_none, shO_some, Option.isNone_none, Option.isNone_some, Bool.not_true, Bool.not_false]
  refine i_look (l := I2.t) O2 R2 1 rfl key ?_
  simp only [hx, Option.map_some, oB_some, bC_true, bC_false, vInt_int, vBool_bool, vStr_string, vPtr_pointer, vSl_slice, vMap_map, vFun_func, vAgg_agg, vTup_tuple, vIfc_nil, vIfc_iface, lC_cons, lN_nil, aP_some, shO_none, shO_some, Option.isNone_none, Option.isNone_some, Bool.not_true, Bool.not_false]
  have hxst := hst2 x.m (List.mem_map.2 ⟨x, List.mem_of_getElem? hxj, rfl⟩)
  refine i_turn_ok (b := 3) O2 R2 hxj (by omega) (by omega) (by omega) (by omega) (by omega) fun h3 ρ3 O3 R3 => ?_
  have hxj3 : (I2.up j (x.as 3)).t[j]? = some (x.as 3) := by simp [hjl]
  refine w_wr O3 R3 (4 + (j * 2 + 0)) (j := 1) (t_rs hxj3 (by omega)) (show 1 < 4 by omega) rfl fun h4 ρ4 O4 R4 => ?_
  let x4 : IT := { x with m := { x.m with st := 3, on := on } }
  let I4 : IM := I2.up j x4
  have hts4 : I4.ts = mupL I2.ts key fun t => { t with st := 3, on := on } := by
    show (I2.up j x4).ts = _
    rw [up_ts]
    exact mupL_set (f := fun t => { t with st := 3, on := on }) hnd2 (show I2.ts[j]? = some x.m by simp [IM.ts, hxj]) hxk
  have R4 : Pcs ρ2 ρ4 I4.ns I4.rs := by
    refine (R4.names ?_).eq ?_
    · show I2.n0 :: I2.n1 :: I2.n2 :: I2.n3 :: (I2.t.set j (x.as 3)).flatMap IT.ns = I2.n0 :: I2.n1 :: I2.n2 :: I2.n3 :: (I2.t.set j x4).flatMap IT.ns
      rw [ns_set (x' := x.as 3) hxj rfl, ns_set (x' := x4) hxj rfl]
    · rw [t_set (x' := x4) hxj3 (by omega) rfl]
      have h1 : (I2.up j (x.as 3)).head = I4.head := by
        have g1 := fun s => manyOf_set (l := I2.ts) (j := j) (t := x.m) (t' := (x.as 3).m) (by simp [IM.ts, hxj]) (by omega) (show (3 : Nat) ≠ 0 by omega) s
        have g2 := fun s => manyOf_set (l := I2.ts) (j := j) (t := x.m) (t' := x4.m) (by simp [IM.ts, hxj]) (by omega) (show (3 : Nat) ≠ 0 by omega) s
        have g3 : (I2.up j (x.as 3)).ts = I2.ts.set j (x.as 3).m := up_ts
        have g4 : I4.ts = I2.ts.set j x4.m := up_ts
        unfold IM.head
        rw [g3, g4]
        simp only [g1, g2]
        rfl
      have h2 : ents ((I2.up j (x.as 3)).t) = ents I4.t := by
        show ents (I2.t.set j (x.as 3)) = ents (I2.t.set j x4)
        rw [up_ents (x' := x.as 3) hxj rfl rfl, up_ents (x' := x4) hxj rfl rfl]
      rw [h1, h2]
      simp [I4]
  have hk4 : mkeys I4.ts = mkeys I2.ts := by rw [hts4]; exact mupL_keys (f := fun t => { t with st := 3, on := on }) (fun _ => rfl) _
  have hnd4 : (mkeys I4.ts).Nodup := by rw [hk4]; exact hnd2
  obtain ⟨t4, ht4⟩ : ∃ t, mget I4.ts on = some t := by
    obtain ⟨t, ht⟩ := hon2
    have := mget_keys on hk4
    rw [ht] at this
    exact isSome_ex (by simpa using this)
  obtain ⟨y, i, hy, hym, hyi, hil, hyk⟩ := iget_of ht4
  have hws4 : y.m.ws.length ≤ 1000000 := by
    have : y.m ∈ I4.ts := List.mem_map.2 ⟨y, List.mem_of_getElem? hyi, rfl⟩
    rw [hts4] at this
    obtain ⟨z, hz, e⟩ := List.mem_map.1 this
    have := hws2 z hz
    rw [← e]; split <;> exact this
  have rd0 : ∀ {h : AW} {μ : Paint} {ρ ρ0 : Store} {ns : List Nat} {rs : List Res} {f : Value → Prop} {k : Nat}, Own h μ ρ → Pcs ρ0 ρ ns rs → rs[k]? = some (.var I2.p I4.head) → f (.map (some I2.mp)) → oB (h.rd I2.p 0) f := fun O W hr hf => by
    exact w_rd O W _ (j := 0) hr rfl hf
  refine rd0 (k := 0) O4 R4 rfl ?_
  simp only [oB_some, bC_true, bC_false, vInt_int, vBool_bool, vStr_string, vPtr_pointer, vSl_slice, vMap_map, vFun_func, vAgg_agg, vTup_tuple, vIfc_nil, vIfc_iface, lC_cons, lN_nil, aP_some, shO_none, shO_some, Option.isNone_none, Option.isNone_some, Bool.not_true, Bool.not_false]
  refine i_look (l := I4.t) O4 R4 1 rfl on ?_
  simp only [hy, Option.map_some, oB_some, bC_true, bC_false, vInt_int, vBool_bool, vStr_string, vPtr_pointer, vSl_slice, vMap_map, vFun_func, vAgg_agg, vTup_tuple, vIfc_nil, vIfc_iface, lC_cons, lN_nil, aP_some, shO_none, shO_some, Option.isNone_none, Option.isNone_some, Bool.not_true, Bool.not_false]
  refine rd0 (k := 0) O4 R4 rfl ?_
  simp only [oB_some, bC_true, bC_false, vInt_int, vBool_bool, vStr_string, vPtr_pointer, vSl_slice, vMap_map, vFun_func, vAgg_agg, vTup_tuple, vIfc_nil, vIfc_iface, lC_cons, lN_nil, aP_some, shO_none, shO_some, Option.isNone_none, Option.isNone_some, Bool.not_true, Bool.not_false]
  refine i_look (l := I4.t) O4 R4 1 rfl on ?_
  simp only [hy, Option.map_some, oB_some, bC_true, bC_false, vInt_int, vBool_bool, vStr_string, vPtr_pointer, vSl_slice, vMap_map, vFun_func, vAgg_agg, vTup_tuple, vIfc_nil, vIfc_iface, lC_cons, lN_nil, aP_some, shO_none, shO_some, Option.isNone_none, Option.isNone_some, Bool.not_true, Bool.not_false]
  refine w_rd O4 R4 (4 + (i * 2 + 0)) (j := 2) (t_rs hyi (by omega)) rfl ?_
  simp only [oB_some, bC_true, bC_false, vInt_int, vBool_bool, vStr_string, vPtr_pointer, vSl_slice, vMap_map, vFun_func, vAgg_agg, vTup_tuple, vIfc_nil, vIfc_iface, lC_cons, lN_nil, aP_some, shO_none, shO_some, Option.isNone_none, Option.isNone_some, Bool.not_true, Bool.not_false]
  obtain ⟨μ5, ρ5, c5, O5, W5, hc5⟩ := w_block O4 R4 (strs [key]) (n := 1) (sz := 1) rfl rfl
  have hr5 : ∀ {k : Nat} {r : Res}, k < 2 → y.rs[k]? = some r → (Res.sl (some ⟨h4.next, 0, none⟩) 1 1 (strs [key]) :: I4.rs)[5 + (i * 2 + k)]? = some r := fun {k r} hk hr => by
    rw [show 5 + (i * 2 + k) = (4 + (i * 2 + k)) + 1 from by omega, List.getElem?_cons_succ]
    exact (t_rs hyi hk).trans hr
  refine w_app (P := P) O5 W5 (5 + (i * 2 + 1)) ti_ty_sl_string ti_ty_string (by decide) (hr5 (by omega) rfl) (by simp) (w_sl O5 W5 0 rfl) rfl rfl (by omega) (by omega) fun wa wc h6 μ6 ρ6 O6 W6 => ?_
  simp only [oB_some, bC_true, bC_false, vInt_int, vBool_bool, vStr_string, vPtr_pointer, vSl_slice, vMap_map, vFun_func, vAgg_agg, vTup_tuple, vIfc_nil, vIfc_iface, lC_cons, lN_nil, aP_some, shO_none, shO_some, Option.isNone_none, Option.isNone_some, Bool.not_true, Bool.not_false]
  have hr6 : ∀ {r : Res}, ((Res.sl (some ⟨h4.next, 0, none⟩) 1 1 (strs [key]) :: I4.rs).set (5 + (i * 2 + 1)) r)[5 + (i * 2 + 0)]? = some (.var y.id y.cells) := fun {r} => by
    rw [List.getElem?_set_ne (by omega)]
    exact hr5 (by omega) rfl
  have hr6m : ∀ {r : Res}, ((Res.sl (some ⟨h4.next, 0, none⟩) 1 1 (strs [key]) :: I4.rs).set (5 + (i * 2 + 1)) r)[1]? = some (.var I2.p I4.head) := fun {r} => by
    rw [List.getElem?_set_ne (by omega)]; rfl
  have hr6p : ∀ {r : Res}, ((Res.sl (some ⟨h4.next, 0, none⟩) 1 1 (strs [key]) :: I4.rs).set (5 + (i * 2 + 1)) r)[2]? = some (.map I2.mp (keyd (ents I4.t))) := fun {r} => by
    rw [List.getElem?_set_ne (by omega)]; rfl
  refine w_wr O6 W6 (5 + (i * 2 + 0)) (j := 2) hr6 (show 2 < 4 by omega) rfl fun h7 ρ7 O7 W7 => ?_
  refine rd0 (k := 1) O5 W5 rfl ?_
  simp only [oB_some, bC_true, bC_false, vInt_int, vBool_bool, vStr_string, vPtr_pointer, vSl_slice, vMap_map, vFun_func, vAgg_agg, vTup_tuple, vIfc_nil, vIfc_iface, lC_cons, lN_nil, aP_some, shO_none, shO_some, Option.isNone_none, Option.isNone_some, Bool.not_true, Bool.not_false]
  refine ⟨trivial, ?_⟩
  refine rd0 (k := 1) O6 W6 hr6m ?_
  simp only [oB_some, bC_true, bC_false, vInt_int, vBool_bool, vStr_string, vPtr_pointer, vSl_slice, vMap_map, vFun_func, vAgg_agg, vTup_tuple, vIfc_nil, vIfc_iface, lC_cons, lN_nil, aP_some, shO_none, shO_some, Option.isNone_none, Option.isNone_some, Bool.not_true, Bool.not_false]
  refine ⟨trivial, ?_⟩
  refine i_look (l := I4.t) O5 W5 2 rfl on ?_
  simp only [hy, Option.map_some, oB_some, bC_true, bC_false, vInt_int, vBool_bool, vStr_string, vPtr_pointer, vSl_slice, vMap_map, vFun_func, vAgg_agg, vTup_tuple, vIfc_nil, vIfc_iface, lC_cons, lN_nil, aP_some, shO_none, shO_some, Option.isNone_none, Option.isNone_some, Bool.not_true, Bool.not_false]
  refine ⟨trivial, ?_⟩
  refine i_look (l := I4.t) O6 W6 2 hr6p on ?_
  simp only [hy, Option.map_some, oB_some, bC_true, bC_false, vInt_int, vBool_bool, vStr_string, vPtr_pointer, vSl_slice, vMap_map, vFun_func, vAgg_agg, vTup_tuple, vIfc_nil, vIfc_iface, lC_cons, lN_nil, aP_some, shO_none, shO_some, Option.isNone_none, Option.isNone_some, Bool.not_true, Bool.not_false]
  refine ⟨trivial, ?_⟩
  refine rd0 (k := 1) O5 W5 rfl ?_
  simp only [oB_some, bC_true, bC_false, vInt_int, vBool_bool, vStr_string, vPtr_pointer, vSl_slice, vMap_map, vFun_func, vAgg_agg, vTup_tuple, vIfc_nil, vIfc_iface, lC_cons, lN_nil, aP_some, shO_none, shO_some, Option.isNone_none, Option.isNone_some, Bool.not_true, Bool.not_false]
  refine ⟨trivial, ?_⟩
  refine i_look (l := I4.t) O5 W5 2 rfl on ?_
  simp only [hy, Option.map_some, oB_some, bC_true, bC_false, vInt_int, vBool_bool, vStr_string, vPtr_pointer, vSl_slice, vMap_map, vFun_func, vAgg_agg, vTup_tuple, vIfc_nil, vIfc_iface, lC_cons, lN_nil, aP_some, shO_none, shO_some, Option.isNone_none, Option.isNone_some, Bool.not_true, Bool.not_false]
  refine ⟨trivial, ?_⟩
  refine w_rd O5 W5 (5 + (i * 2 + 0)) (j := 2) (hr5 (by omega) rfl) rfl ?_
  simp only [oB_some, bC_true, bC_false, vInt_int, vBool_bool, vStr_string, vPtr_pointer, vSl_slice, vMap_map, vFun_func, vAgg_agg, vTup_tuple, vIfc_nil, vIfc_iface, lC_cons, lN_nil, aP_some, shO_none, shO_some, Option.isNone_none, Option.isNone_some, Bool.not_true, Bool.not_false]
  refine ⟨trivial, ?_⟩
  let y5 : IT := { y with m := { y.m with ws := y.m.ws ++ [key] }, wa := wa, wc := wc }
  let I5 : IM := I4.up i y5
  have hts5 : I5.ts = mupL I4.ts on fun t => { t with ws := t.ws ++ [key] } := by
    show (I4.up i y5).ts = _
    rw [up_ts]
    exact mupL_set (f := fun t => { t with ws := t.ws ++ [key] }) hnd4 (show I4.ts[i]? = some y.m by simp [IM.ts, hyi]) hyk
  have hyst : y.m.st ≠ 0 := by
    have : y.m ∈ I4.ts := List.mem_map.2 ⟨y, List.mem_of_getElem? hyi, rfl⟩
    rw [hts4] at this
    obtain ⟨z, hz, e⟩ := List.mem_map.1 this
    have := hst2 z hz
    rw [← e]; split
    · simp
    · omega
  have R7 : Pcs ρ2 ρ7 I5.ns I5.rs := by
    have W8 : Pcs ρ2 ρ7 I4.ns (((I4.rs).set (4 + (i * 2 + 1)) (.sl wa wc 1 (strs (y.m.ws ++ [key])))).set (4 + (i * 2 + 0)) (.var y.id y5.cells)) := by
      refine Pcs.tail (r := Res.sl (some ⟨h4.next, 0, none⟩) 1 1 (strs [key])) ((W7).eq ?_) hc5
      · rw [show 5 + (i * 2 + 0) = (4 + (i * 2 + 0)) + 1 from by omega, show 5 + (i * 2 + 1) = (4 + (i * 2 + 1)) + 1 from by omega]
        simp only [List.set_cons_succ]
        congr 3
        · simp
        · simp [y5, IT.cells]
    refine (W8.names ?_).eq ?_
    · show _ = I2.n0 :: I2.n1 :: I2.n2 :: I2.n3 :: (I4.t.set i y5).flatMap IT.ns
      rw [ns_set (x' := y5) hyi rfl]
    · rw [t_set2 (x' := y5) hyi rfl]
      have h1 : I4.head = I5.head := by
        have g1 := fun s => manyOf_set (l := I4.ts) (j := i) (t := y.m) (t' := y5.m) (by simp [IM.ts, hyi]) hyst hyst s
        have g4 : I5.ts = I4.ts.set i y5.m := up_ts
        have g5 : ∀ s, manyOf I5.ts s = manyOf I4.ts s := fun s => by rw [g4, g1 s]; show _ - (if y.m.st = s then 1 else 0) + (if y.m.st = s then 1 else 0) = _; omega
        unfold IM.head
        simp only [g5]
        rfl
      have h2 : ents I5.t = ents I4.t := up_ents (x' := y5) hyi rfl rfl
      rw [h1, ← h2]
  have hst5 : ∀ t, t ∈ I5.ts → t.st = 3 → ∃ t', mget I5.ts t.on = some t' := by
    intro t ht h3
    have hk5 : mkeys I5.ts = mkeys I2.ts := by rw [hts5, mupL_keys (f := fun t => { t with ws := t.ws ++ [key] }) (fun _ => rfl), hk4]
    have ex : ∀ k, (∃ t', mget I2.ts k = some t') → ∃ t', mget I5.ts k = some t' := fun k ⟨t', h'⟩ => by
      have := mget_keys k hk5
      rw [h'] at this
      exact isSome_ex (by simpa using this)
    rw [hts5] at ht
    obtain ⟨z, hz, e⟩ := List.mem_map.1 ht
    rw [hts4] at hz
    obtain ⟨z', hz', e'⟩ := List.mem_map.1 hz
    have hz1 : t.st = z.st ∧ t.on = z.on := by rw [← e]; split <;> exact ⟨rfl, rfl⟩
    rw [hz1.2]
    rw [hz1.1] at h3
    refine ex _ ?_
    by_cases ek : z'.key = key
    · rw [if_pos ek] at e'
      rw [← e']; exact hon2
    · rw [if_neg ek] at e'
      subst e'
      exact hw3 _ hz' h3
  refine i_leave_ok (I := I5) O7 R7 (by have := K.nsl; simp only [I5, I4, hsl2]; exact Nat.le_trans this (by omega)) (by simp only [I5, I4, hsl2]; exact K.slot (Decidable.byContradiction e2)) fun h8 ρ8 O8 R8 => ?_
  let I6 : IM := { I5 with slots := ileave I5.slots key }
  have hts6 : I6.ts = I5.ts := rfl
  have hk6 : ∃ t, mget I5.ts key = some t := by
    have hk5 : mkeys I5.ts = mkeys I2.ts := by rw [hts5, mupL_keys (f := fun t => { t with ws := t.ws ++ [key] }) (fun _ => rfl), hk4]
    have := mget_keys key hk5
    rw [ht2] at this
    exact isSome_ex (by simpa using this)
  refine i_circle_ok (I := I6) (by simp only [I6, I5, I4, List.length_set]; omega) O8 R8.self hk6 hst5 fun h9 μ9 ρ9 co oa oc O9 W9 hco => ?_
  simp only [oB_some, bC_true, bC_false, vInt_int, vBool_bool, vStr_string, vPtr_pointer, vSl_slice, vMap_map, vFun_func, vAgg_agg, vTup_tuple, vIfc_nil, vIfc_iface, lC_cons, lN_nil, aP_some, shO_none, shO_some, Option.isNone_none, Option.isNone_some, Bool.not_true, Bool.not_false]
  rw [hts6, hts5, hts4] at W9 ⊢
  have F8 : FrN I2.ns ρ2 I6.ns ρ8 := by
    have hn6 : I6.ns = I2.ns := by
      show I2.n0 :: I2.n1 :: I2.n2 :: I2.n3 :: (I4.t.set i y5).flatMap IT.ns = _
      rw [ns_set (x' := y5) hyi rfl]
      show I2.n0 :: I2.n1 :: I2.n2 :: I2.n3 :: (I2.t.set j x4).flatMap IT.ns = _
      rw [ns_set (x' := x4) hxj rfl]
    have hn5 : I5.ns = I2.ns := hn6
    refine ⟨?_, fun c hc => .inl (by rw [hn6] at hc; exact hc), fun c hc => by rw [hn6]; exact hc⟩
    have := R8.fra
    rw [show ({ I5 with slots := ileave I5.slots key } : IM).ns = I5.ns from rfl, hn5] at this
    exact this
  have F9 : FrN I.ns ρ I6.ns ρ9 := (F2.trans F8).trans (FrN.of (W9.tail hco).fra)
  refine hq h9 μ9 ρ9 I6 co oa oc O9 W9.self ?_ ?_ b2 F9
  · simp only [IM.m, hts6, hts5, hts4, MI.mk.injEq, true_and]
    exact ⟨by simp only [I6, I5, I4, hsl2], rfl⟩
  · exact (F2.trans F8).none (pcs_notin W9) hco
end Go.Proofs.YtgdkekdedgkglaaDoor
end

section
/- The scheduler: ending a task. -/
namespace Go.Proofs.YtgdkekdedgkglaaDoor
open Go.Abs Go.Abs.Sch
set_option maxRecDepth 100000
attribute [local irreducible] unitAt EvQ
variable {h : AW} {μ : Paint} {ρ : Store} {Q : Value → AW → Prop}

/-- What the loop that wakes the waiting ones wants. -/
structure Wake (l : List MT) (ws : List Str) (key : Str) : Prop where
  nodup : (mkeys l).Nodup
  st : ∀ t, t ∈ l → 1 ≤ t.st ∧ t.st ≤ 4
  known : ∀ k, k ∈ ws → k ≠ key → ∃ t, mget l k = some t
def wake (key : Str) (m : MI) (k : Str) : MI := if k = key then m else ready m k
theorem Wake.step {m : MI} {ws : List Str} {key k : Str} (K : Wake m.tasks ws key) : Wake (ready m k).tasks ws key := by
  have hk : mkeys (ready m k).tasks = mkeys m.tasks := mupL_keys (f := fun t => { t with st := 1 }) (fun _ => rfl) _
  refine ⟨by rw [hk]; exact K.nodup, fun t ht => ?_, fun k' h1 h2 => ?_⟩
  · obtain ⟨z, hz, e⟩ := List.mem_map.1 ht
    have := K.st z hz
    rw [← e]; split
    · simp
    · exact this
  · obtain ⟨t, ht⟩ := K.known k' h1 h2
    have := mget_keys k' hk
    rw [ht] at this
    exact isSome_ex (by simpa using this)
theorem wake_loop {key : Str} {ws : List Str} {x : IT} {c b j : Nat} {ns : List Nat} {p : Nat} {ρ0 : Store} (hx : x.m.ws = ws) (hk : x.m.key = key) (hws : ws.length ≤ 1000) (h0 : ρ0 c = none) :
    ∀ (n i : Nat) {h : AW} {μ : Paint} {ρ : Store} {I : IM}, ws.length - i = n → i ≤ ws.length → I.ns = ns → I.p = p → I.t[j]? = some x → Wake I.ts ws key → I.t.length ≤ 100000 → I.queue.length + n ≤ 1000000 → Own h μ ρ → Pcs ρ0 ρ (c :: ns) (.var b [.string key] :: I.rs) →
    (∀ h' μ' ρ' (I' : IM), Own h' μ' ρ' → Pcs ρ0 ρ' ns I'.rs → I'.m = { (((ws.drop i).foldl (wake key) I.m) : MI) with tasks := mupL ((ws.drop i).foldl (wake key) I.m).tasks key fun t => { t with ws := [] } } → I'.ns = ns → I'.p = p → Q (.int .i64 0) h') →
    unitAt P f_p_sched_Sched_Done 13 [0, 3, 5, 51, 52, 53] [.pointer (some ⟨p, 0, none⟩), .pointer (some ⟨b, 0, none⟩), .pointer (some ⟨x.id, 0, none⟩), .slice x.wa ws.length x.wc, .int .i64 (ws.length : Int), .int .i64 (i : Int)] h Q := by
  intro n
  induction n with
  | zero =>
    intro i h μ ρ I hn hi hns hp hxj K hl hql O W hq
    refine r_p_sched_Sched_Done_13 ?_
    rw [geI (by omega)]
    simp only [oB_some, bC_true, bC_false, vInt_int, vBool_bool, vStr_string, vPtr_pointer, vSl_slice, vMap_map, vFun_func, vAgg_agg, vTup_tuple, vIfc_nil, vIfc_iface, lC_cons, lN_nil, aP_some, shO_none, shO_some, Option.isNone_none, Option.isNone_some, Bool.not_true, Bool.not_false]
    rw [List.drop_eq_nil_of_le (by omega)] at hq
    have hr5 : (Res.var b [.string key] :: I.rs)[5 + (j * 2 + 0)]? = some (.var x.id x.cells) := by
      rw [show 5 + (j * 2 + 0) = (4 + (j * 2 + 0)) + 1 from by omega, List.getElem?_cons_succ]
      exact t_rs hxj (by omega)
    refine w_wr O W (5 + (j * 2 + 0)) (j := 2) hr5 (show 2 < 4 by omega) rfl fun h1 ρ1 O1 W1 => ?_
    obtain ⟨ρ2, c2, O2, W2, hc2⟩ := w_nil O1 W1 1
    have hjl : j < I.t.length := (List.getElem?_eq_some_iff.1 hxj).1
    obtain ⟨μ3, ρ3, O3, W3⟩ := w_swap O2 W2 hc2 (5 + (j * 2 + 1)) (by simp [flat_len it_rs]; omega)
    let x' : IT := { x with m := { x.m with ws := [] }, wa := none, wc := 0 }
    let I' : IM := I.up j x'
    have hst := K.st x.m (List.mem_map.2 ⟨x, List.mem_of_getElem? hxj, rfl⟩)
    refine hq h1 μ3 ρ3 I' O3 ?_ ?_ ?_ hp
    · have W4 : Pcs ρ0 ρ3 ns ((I.rs.set (4 + (j * 2 + 0)) (.var x.id x'.cells)).set (4 + (j * 2 + 1)) (.sl none 0 1 [])) := by
        refine Pcs.tail (r := .var b [.string key]) (W3.eq ?_) h0
        rw [show 5 + (j * 2 + 0) = (4 + (j * 2 + 0)) + 1 from by omega, show 5 + (j * 2 + 1) = (4 + (j * 2 + 1)) + 1 from by omega]
        simp only [List.set_cons_succ]
        rfl
      refine W4.eq ?_
      rw [List.set_comm _ _ (by omega), t_set2 (x' := x') (ra := .var x.id x'.cells) (rb := .sl none 0 1 []) hxj rfl]
      have h1 : I.head = I'.head := by
        have g1 := fun s => manyOf_set (l := I.ts) (j := j) (t := x.m) (t' := x'.m) (by simp [IM.ts, hxj]) (by omega) (show x.m.st ≠ 0 by omega) s
        have g4 : I'.ts = I.ts.set j x'.m := up_ts
        have g5 : ∀ s, manyOf I'.ts s = manyOf I.ts s := fun s => by rw [g4, g1 s]; show _ - (if x.m.st = s then 1 else 0) + (if x.m.st = s then 1 else 0) = _; omega
        unfold IM.head
        simp only [g5]
        rfl
      have h2 : ents I'.t = ents I.t := up_ents (x' := x') hxj rfl rfl
      rw [h1, ← h2]
    · simp only [List.foldl_nil]
      show (⟨I'.ts, I.slots, I.queue⟩ : MI) = ⟨mupL I.ts key _, I.slots, I.queue⟩
      rw [MI.mk.injEq]
      refine ⟨?_, rfl, rfl⟩
      show (I.up j x').ts = _
      rw [up_ts]
      exact mupL_set (f := fun t => { t with ws := [] }) K.nodup (show I.ts[j]? = some x.m by simp [IM.ts, hxj]) hk
    · rw [← hns]
      show I.n0 :: I.n1 :: I.n2 :: I.n3 :: (I.t.set j x').flatMap IT.ns = _
      rw [ns_set (x' := x') hxj rfl]
  | succ n ih =>
    intro i h μ ρ I hn hi hns hp hxj K hl hql O W hq
    have hlt : i < ws.length := by omega
    refine r_p_sched_Sched_Done_13 ?_
    rw [ltI hlt]
    simp only [oB_some, bC_true, bC_false, vInt_int, vBool_bool, vStr_string, vPtr_pointer, vSl_slice, vMap_map, vFun_func, vAgg_agg, vTup_tuple, vIfc_nil, vIfc_iface, lC_cons, lN_nil, aP_some, shO_none, shO_some, Option.isNone_none, Option.isNone_some, Bool.not_true, Bool.not_false]
    have hsl : Strs h x.wa ws := by
      have := w_sl O W (a := x.wa) (cap := x.wc) (sz := 1) (l := strs x.m.ws) (5 + (j * 2 + 1)) (by rw [show 5 + (j * 2 + 1) = (4 + (j * 2 + 1)) + 1 from by omega, List.getElem?_cons_succ]; exact t_rs hxj (by omega))
      rw [hx] at this; exact this
    refine sat1 hsl rfl rfl hlt ?_
    rw [List.drop_eq_getElem_cons hlt, List.foldl_cons] at hq
    have hmem : ws[i] ∈ ws := List.getElem_mem hlt
    generalize ws[i] = k at *
    refine w_rd O W 0 (j := 0) rfl rfl ?_
    simp only [oB_some, bC_true, bC_false, vInt_int, vBool_bool, vStr_string, vPtr_pointer, vSl_slice, vMap_map, vFun_func, vAgg_agg, vTup_tuple, vIfc_nil, vIfc_iface, lC_cons, lN_nil, aP_some, shO_none, shO_some, Option.isNone_none, Option.isNone_some, Bool.not_true, Bool.not_false]
    rw [wrapS (by omega)]
    refine bC_iff (fun e => ?_) (fun e => ?_)
    · have e : k ≠ key := bEq_false.1 (by simpa using e)
      rw [show wake key I.m k = ready I.m k from if_neg e] at hq
      obtain ⟨t, ht⟩ := K.known k hmem e
      obtain ⟨y, i', hy, hym, hyi, hil, hyk⟩ := iget_of ht
      have hyst := K.st y.m (List.mem_map.2 ⟨y, List.mem_of_getElem? hyi, rfl⟩)
      subst hp
      refine w_rd O W 1 (j := 0) rfl rfl ?_
      simp only [oB_some, bC_true, bC_false, vInt_int, vBool_bool, vStr_string, vPtr_pointer, vSl_slice, vMap_map, vFun_func, vAgg_agg, vTup_tuple, vIfc_nil, vIfc_iface, lC_cons, lN_nil, aP_some, shO_none, shO_some, Option.isNone_none, Option.isNone_some, Bool.not_true, Bool.not_false]
      refine i_look (l := I.t) O W 2 rfl k ?_
      simp only [hy, Option.map_some, oB_some, bC_true, bC_false, vInt_int, vBool_bool, vStr_string, vPtr_pointer, vSl_slice, vMap_map, vFun_func, vAgg_agg, vTup_tuple, vIfc_nil, vIfc_iface, lC_cons, lN_nil, aP_some, shO_none, shO_some, Option.isNone_none, Option.isNone_some, Bool.not_true, Bool.not_false]
      have R : Pcs ρ ρ I.ns I.rs := (W.self.tail').names hns.symm
      refine i_ready_ok (I := I) O R hyi (by omega) (by omega) (by omega) (by omega) fun h2 μ2 ρ2 qa qc O2 R2 => ?_
      let I' : IM := (I.up i' (y.as 1)).push k qa qc
      have hns' : I'.ns = ns := (congrArg (fun l => I.n0 :: I.n1 :: I.n2 :: I.n3 :: l) (ns_set (x' := y.as 1) hyi rfl)).trans hns
      have hm' : I'.m = ready I.m k := by
        simp only [I', IM.m, ready, MI.mk.injEq, and_true]
        show (I.up i' (y.as 1)).ts = _
        rw [up_ts]
        exact mupL_set (f := fun t => { t with st := 1 }) K.nodup (show I.ts[i']? = some y.m by simp [IM.ts, hyi]) hyk
      have hne : i' ≠ j := fun e2 => by
        subst e2
        rw [hxj] at hyi; cases hyi
        exact e (hyk.symm.trans hk)
      have W2 : Pcs ρ0 ρ2 (c :: ns) (.var b [.string key] :: I'.rs) := by
        have hnc := (List.nodup_cons.1 W.nodup).1
        refine ⟨W.nodup, ?_, fun q d r hd hr => ?_, fun d r hd hr => ?_⟩
        · have := R2.len; rw [show ((I.up i' (y.as 1)).push k qa qc).ns = ns from hns'] at this
          simp only [List.length_cons, this]; rfl
        · cases q with
          | zero =>
            have := W.at_ 0 d r (by simpa using hd) (by simpa using hr)
            simp at hd
            refine R2.fra d r ?_ this
            rw [← hd]
            intro hm
            rw [show ((I.up i' (y.as 1)).push k qa qc).ns = ns from hns'] at hm
            exact hnc hm
          | succ q => exact R2.at_ q d r (by rw [show ((I.up i' (y.as 1)).push k qa qc).ns = ns from hns']; simpa using hd) (by simpa using hr)
        · refine R2.fra d r (fun hm => hd ?_) (W.fra d r hd hr)
          rw [show ((I.up i' (y.as 1)).push k qa qc).ns = ns from hns'] at hm
          exact List.mem_cons_of_mem _ hm
      have K' : Wake I'.ts ws key := by
        have := K.step (m := I.m) (k := k)
        rw [← hm'] at this; exact this
      refine ih (i + 1) (I := I') (by omega) (by omega) hns' rfl ?_ K' (by simpa [I'] using hl) (by simp [I']; omega) O2 W2 ?_
      · show (I.t.set i' (y.as 1))[j]? = some x
        rw [List.getElem?_set_ne hne]; exact hxj
      · rw [hm']; exact hq
    · have e : k = key := bEq_iff.1 (by simpa using e)
      rw [show wake key I.m k = I.m from if_pos e] at hq
      exact ih (i + 1) (by omega) (by omega) hns hp hxj K hl (by omega) O W hq

/-- What Done wants to know. -/
structure DoneI (m : MI) (key : Str) : Prop where
  nodup : (mkeys m.tasks).Nodup
  st : ∀ t, t ∈ m.tasks → 1 ≤ t.st ∧ t.st ≤ 4
  on : ∀ t, t ∈ m.tasks → t.st = 3 → ∃ t', mget m.tasks t.on = some t'
  slot : mst m.tasks key = 2 → key ∈ m.slots
  ws : ∀ t, t ∈ m.tasks → t.ws.length ≤ 1000 ∧ ∀ k, k ∈ t.ws → ∃ t', mget m.tasks k = some t'
  nt : m.tasks.length ≤ 1000
  nq : m.queue.length ≤ 100000
  nsl : m.slots.length ≤ 1000
theorem done_fn {key : Str} {b : Nat} {s : Str} (hb : oB (h.rd b 0) fun v => vStr v fun s' => s' = key) (hq : Q (.bool (bEq s key)) h) : EvQ P f_p_sched_Sched_Done_fn1 [.string s, .pointer (some ⟨b, 0, none⟩)] h Q := by
  refine r_p_sched_Sched_Done_fn1 ?_
  obtain ⟨v, e, hv⟩ := oB_ok hb
  obtain ⟨s', rfl, rfl⟩ := vStr_ok hv
  rw [e]
  exact hq
/-- From the turn on. -/
theorem done_tail {key : Str} {I : IM} {x : IT} {c b j : Nat} {ρ0 : Store} (hxj : I.t[j]? = some x) (hk : x.m.key = key) (hnd : (mkeys I.ts).Nodup) (hst : ∀ t, t ∈ I.ts → 1 ≤ t.st ∧ t.st ≤ 4) (hws : x.m.ws.length ≤ 1000) (hkn : ∀ k, k ∈ x.m.ws → ∃ t', mget I.ts k = some t')
    (hl : I.t.length ≤ 100000) (hql : I.queue.length ≤ 200000) (h0 : ρ0 c = none) (O : Own h μ ρ) (W : Pcs ρ0 ρ (c :: I.ns) (.var b [.string key] :: I.rs))
    (hq : ∀ h' μ' ρ' (I' : IM), Own h' μ' ρ' → Pcs ρ0 ρ' I.ns I'.rs → I'.m = { ((x.m.ws.foldl (wake key) ⟨mupL I.ts key fun t => { t with st := 4 }, I.slots, I.queue⟩) : MI) with tasks := mupL (x.m.ws.foldl (wake key) ⟨mupL I.ts key fun t => { t with st := 4 }, I.slots, I.queue⟩).tasks key fun t => { t with ws := [] } } → I'.ns = I.ns → I'.p = I.p → Q (.int .i64 0) h') :
    EvQ P f_p_sched_Sched_turn [.pointer (some ⟨I.p, 0, none⟩), .pointer (some ⟨x.id, 0, none⟩), .int .i64 4] h fun _ h22 => oB (AW.rd h22 x.id (0 + 2)) fun v25 => vSl v25 fun p26 m27 m28 =>
      unitAt P f_p_sched_Sched_Done 13 [0, 3, 5, 51, 52, 53] [.pointer (some ⟨I.p, 0, none⟩), .pointer (some ⟨b, 0, none⟩), .pointer (some ⟨x.id, 0, none⟩), .slice p26 m27 m28, .int .i64 (↑m27 : Int), .int .i64 0] h22 Q := by
  have hjl : j < I.t.length := (List.getElem?_eq_some_iff.1 hxj).1
  have hx4 := hst x.m (List.mem_map.2 ⟨x, List.mem_of_getElem? hxj, rfl⟩)
  have R : Pcs ρ ρ I.ns I.rs := W.self.tail'
  refine i_turn_ok (b := 4) O R hxj (by omega) (by omega) (by omega) (by omega) (by omega) fun h2 ρ2 O2 R2 => ?_
  let I2 : IM := I.up j (x.as 4)
  have hns2 : I2.ns = I.ns := congrArg (fun l => I.n0 :: I.n1 :: I.n2 :: I.n3 :: l) (ns_set (x' := x.as 4) hxj rfl)
  have W2 : Pcs ρ0 ρ2 (c :: I.ns) (.var b [.string key] :: I2.rs) := by
    have hnc := (List.nodup_cons.1 W.nodup).1
    refine ⟨W.nodup, ?_, fun q d r hd hr => ?_, fun d r hd hr => ?_⟩
    · have := R2.len; rw [show (I.up j (x.as 4)).ns = I.ns from hns2] at this
      simp only [List.length_cons, this]; rfl
    · cases q with
      | zero =>
        have := W.at_ 0 d r (by simpa using hd) (by simpa using hr)
        simp at hd
        refine R2.fra d r ?_ this
        rw [← hd]
        intro hm
        rw [show (I.up j (x.as 4)).ns = I.ns from hns2] at hm
        exact hnc hm
      | succ q => exact R2.at_ q d r (by rw [show (I.up j (x.as 4)).ns = I.ns from hns2]; simpa using hd) (by simpa using hr)
    · refine R2.fra d r (fun hm => hd ?_) (W.fra d r hd hr)
      rw [show (I.up j (x.as 4)).ns = I.ns from hns2] at hm
      exact List.mem_cons_of_mem _ hm
  have hxj2 : I2.t[j]? = some (x.as 4) := by simp [I2, hjl]
  have hts2 : I2.ts = mupL I.ts key fun t => { t with st := 4 } := by
    show (I.up j (x.as 4)).ts = _
    rw [up_ts]
    exact mupL_set (f := fun t => { t with st := 4 }) hnd (show I.ts[j]? = some x.m by simp [IM.ts, hxj]) hk
  have hkeys : mkeys I2.ts = mkeys I.ts := by rw [hts2]; exact mupL_keys (f := fun t => { t with st := 4 }) (fun _ => rfl) _
  have hr5 : (Res.var b [.string key] :: I2.rs)[5 + (j * 2 + 0)]? = some (.var x.id (x.as 4).cells) := by
    rw [show 5 + (j * 2 + 0) = (4 + (j * 2 + 0)) + 1 from by omega, List.getElem?_cons_succ]
    exact t_rs hxj2 (by omega)
  refine w_rd O2 W2 (5 + (j * 2 + 0)) (j := 2) hr5 rfl ?_
  simp only [oB_some, bC_true, bC_false, vInt_int, vBool_bool, vStr_string, vPtr_pointer, vSl_slice, vMap_map, vFun_func, vAgg_agg, vTup_tuple, vIfc_nil, vIfc_iface, lC_cons, lN_nil, aP_some, shO_none, shO_some, Option.isNone_none, Option.isNone_some, Bool.not_true, Bool.not_false]
  have KW : Wake I2.ts x.m.ws key := by
    refine ⟨by rw [hkeys]; exact hnd, fun t ht => ?_, fun k hm _ => ?_⟩
    · rw [hts2] at ht
      obtain ⟨z, hz, e⟩ := List.mem_map.1 ht
      have := hst z hz
      rw [← e]; split
      · simp
      · exact this
    · obtain ⟨t', h'⟩ := hkn k hm
      have := mget_keys k hkeys
      rw [h'] at this
      exact isSome_ex (by simpa using this)
  refine wake_loop (x := x.as 4) (ws := x.m.ws) (key := key) rfl hk hws h0 _ 0 (I := I2) rfl (by omega) hns2 rfl hxj2 KW (by simpa [I2] using hl) (by show I.queue.length + _ ≤ _; omega) O2 W2 ?_
  intro h' μ' ρ' I' O' W' a b' c'
  refine hq h' μ' ρ' I' O' W' ?_ b' c'
  rw [a, List.drop_zero]
  have : I2.m = ⟨mupL I.ts key fun t => { t with st := 4 }, I.slots, I.queue⟩ := by
    show (⟨I2.ts, I.slots, I.queue⟩ : MI) = _
    rw [hts2]
  rw [this]
end Go.Proofs.YtgdkekdedgkglaaDoor
end
