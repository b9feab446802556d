/- A deterministic heap for the model, proved sound, and walks of the program over it: part 10. No condition. -/
import Derived.Test.YtgdkekdedgkglaaAb1
import Derived.Test.YtgdkekdedgkglaaAb2
import Derived.Test.YtgdkekdedgkglaaAb3
import Derived.Test.YtgdkekdedgkglaaAb4
import Derived.Test.YtgdkekdedgkglaaAb6
import Derived.Test.YtgdkekdedgkglaaCd1
import Derived.Test.YtgdkekdedgkglaaCd2
import Derived.Test.YtgdkekdedgkglaaCd3
import Derived.Test.YtgdkekdedgkglaaAb5
set_option linter.unusedVariables false
set_option linter.unusedSimpArgs false
set_option linter.unusedSectionVars false
section
/- The document's scheduler: filling, picking, circles. -/
namespace Go.Proofs.Ytgdkekdedgkglaa
open Go.Abs Go.Abs.Sch
set_option maxRecDepth 100000
attribute [local irreducible] unitAt EvQ
variable {h : AW} {μ : Paint} {ρ : Store} {Q : Value → AW → Prop}

theorem fillAt_idle {m : M} {out : List Str} {i : Nat} (hi : i < m.slots.length) (hs : m.slots[i] ≠ e0) : fillAt m out i = (m, out) := by
  unfold fillAt; rw [List.getElem?_eq_getElem hi]; simp only; rw [if_neg hs]
theorem fillAt_nil {m : M} {out : List Str} {i : Nat} (hq : m.queue = []) : fillAt m out i = (m, out) := by
  unfold fillAt; split
  · split
    · rw [hq]
    · rfl
  · rfl
abbrev start (t : Tk) : Tk := { t with st := 2, starts := t.starts + 1 }
theorem fillAt_go {m : M} {out : List Str} {i : Nat} (hi : i < m.slots.length) (hs : m.slots[i] = e0) {k : Str} {q : List Str} (hq : m.queue = k :: q) :
    fillAt m out i = (upT { m with slots := m.slots.set i k, queue := q } k start, out ++ [k]) := by
  unfold fillAt; rw [List.getElem?_eq_getElem hi]; simp only; rw [if_pos hs, hq]
/-- What Fill wants to know. -/
structure FillOk (m : M) : Prop where
  nodup : (keys m.tasks).Nodup
  known : ∀ k, k ∈ m.queue → tix m.tasks k ≠ none
  small : ∀ t, t ∈ m.tasks → t.starts + m.slots.length ≤ 1000000
  nt : m.tasks.length < big
  nq : m.queue.length ≤ 1000000
theorem upL_small {l : List Tk} {k : Str} {B : Nat} (H : ∀ t, t ∈ l → t.starts ≤ B) : ∀ t, t ∈ upL l k start → t.starts ≤ B + 1 := by
  intro t ht
  obtain ⟨t', h1, rfl⟩ := List.mem_map.1 ht
  have := H t' h1
  split
  · simp only; omega
  · omega

theorem fill_loop {co r : Nat} {ns : List Nat} : ∀ (n i : Nat) {h : AW} {μ : Paint} {ρ : Store} {N : RN} {m : M} {out : List Str} {oa : Option Addr} {oc : Nat}, m.slots.length - i = n → i ≤ m.slots.length → m.slots.length ≤ 1000 → out.length ≤ i → N.ns = ns → N.r = r →
    (keys m.tasks).Nodup → (∀ k, k ∈ m.queue → tix m.tasks k ≠ none) → (∀ t, t ∈ m.tasks → t.starts + n ≤ 1000000) → m.tasks.length < big → m.queue.length ≤ 1000000 →
    Own h μ ρ → Pcs ρ ρ (co :: ns) (.sl oa oc 1 (strs out) :: N.rs m) →
    (∀ h' μ' ρ' (N' : RN) oa' oc', Own h' μ' ρ' → Pcs ρ ρ' (co :: ns) (.sl oa' oc' 1 (strs (fillFrom n m out i).2) :: N'.rs (fillFrom n m out i).1) → N'.ns = ns → N'.r = r → Q (.slice oa' (fillFrom n m out i).2.length oc') h') →
    unitAt P f_p_brickyardref20_Sched_Fill 3 [0, 3, 4] [.pointer (some ⟨r, 0, none⟩), .slice oa out.length oc, .int .i64 (i : Int)] h Q := by
  intro n
  induction n with
  | zero =>
    intro i h μ ρ N m out oa oc hn hi hsl ho hns hr hnd hkn hsm hnt hnq O W hq
    refine r_p_brickyardref20_Sched_Fill_3 ?_
    subst hr
    simp only [oB_some, bC_true, bC_false, vInt_int, vBool_bool, vStr_string, vPtr_pointer, vSl_slice, vMap_map, vFun_func, vAgg_agg, vTup_tuple, lC_cons, lN_nil, aP_some, shO_none, shO_some, Option.isNone_none, Option.isNone_some, Bool.not_true, Bool.not_false]
    refine w_rd O W 1 (j := 1) rfl rfl ?_
    simp only [oB_some, bC_true, bC_false, vInt_int, vBool_bool, vStr_string, vPtr_pointer, vSl_slice, vMap_map, vFun_func, vAgg_agg, vTup_tuple, lC_cons, lN_nil, aP_some, shO_none, shO_some, Option.isNone_none, Option.isNone_some, Bool.not_true, Bool.not_false]
    rw [geI (by omega)]
    simp only [oB_some, bC_true, bC_false, vInt_int, vBool_bool, vStr_string, vPtr_pointer, vSl_slice, vMap_map, vFun_func, vAgg_agg, vTup_tuple, lC_cons, lN_nil, aP_some, shO_none, shO_some, Option.isNone_none, Option.isNone_some, Bool.not_true, Bool.not_false]
    exact hq _ _ _ _ _ _ O W hns rfl
  | succ n ih =>
    intro i h μ ρ N m out oa oc hn hi hsl ho hns hr hnd hkn hsm hnt hnq O W hq
    have hlt : i < m.slots.length := by omega
    refine r_p_brickyardref20_Sched_Fill_3 ?_
    subst hr
    simp only [oB_some, bC_true, bC_false, vInt_int, vBool_bool, vStr_string, vPtr_pointer, vSl_slice, vMap_map, vFun_func, vAgg_agg, vTup_tuple, lC_cons, lN_nil, aP_some, shO_none, shO_some, Option.isNone_none, Option.isNone_some, Bool.not_true, Bool.not_false]
    refine w_rd O W 1 (j := 1) rfl rfl ?_
    simp only [oB_some, bC_true, bC_false, vInt_int, vBool_bool, vStr_string, vPtr_pointer, vSl_slice, vMap_map, vFun_func, vAgg_agg, vTup_tuple, lC_cons, lN_nil, aP_some, shO_none, shO_some, Option.isNone_none, Option.isNone_some, Bool.not_true, Bool.not_false]
    rw [ltI hlt]
    simp only [oB_some, bC_true, bC_false, vInt_int, vBool_bool, vStr_string, vPtr_pointer, vSl_slice, vMap_map, vFun_func, vAgg_agg, vTup_tuple, lC_cons, lN_nil, aP_some, shO_none, shO_some, Option.isNone_none, Option.isNone_some, Bool.not_true, Bool.not_false]
    refine w_rd O W 1 (j := 1) rfl rfl ?_
    simp only [oB_some, bC_true, bC_false, vInt_int, vBool_bool, vStr_string, vPtr_pointer, vSl_slice, vMap_map, vFun_func, vAgg_agg, vTup_tuple, lC_cons, lN_nil, aP_some, shO_none, shO_some, Option.isNone_none, Option.isNone_some, Bool.not_true, Bool.not_false]
    refine at1 (w_sl O W 3 rfl) rfl rfl hlt ?_
    rw [wrapS (by omega)]
    have skip : fillAt m out i = (m, out) → unitAt P f_p_brickyardref20_Sched_Fill 3 [0, 3, 4] [.pointer (some ⟨N.r, 0, none⟩), .slice oa out.length oc, .int .i64 ((i + 1 : Nat) : Int)] h Q := by
      intro e
      have e2 : fillFrom (n + 1) m out i = fillFrom n m out (i + 1) := by rw [fillFrom, e]
      rw [e2] at hq
      exact ih (i + 1) (by omega) (by omega) hsl (by omega) hns rfl hnd hkn (fun t ht => by have := hsm t ht; omega) hnt hnq O W hq
    refine bC_iff (fun e => ?_) (fun e => skip (fillAt_idle hlt (bEq_false.1 e)))
    have e : m.slots[i] = e0 := bEq_iff.1 e
    refine w_rd O W 1 (j := 2) rfl rfl ?_
    simp only [oB_some, bC_true, bC_false, vInt_int, vBool_bool, vStr_string, vPtr_pointer, vSl_slice, vMap_map, vFun_func, vAgg_agg, vTup_tuple, lC_cons, lN_nil, aP_some, shO_none, shO_some, Option.isNone_none, Option.isNone_some, Bool.not_true, Bool.not_false]
    refine bC_iff (fun eq => ?_) (fun eq => skip (fillAt_nil (List.eq_nil_of_length_eq_zero (by simp at eq; simpa using eq))))
    obtain ⟨k, q, hkq⟩ : ∃ k q, m.queue = k :: q := by
      cases hx : m.queue with
      | nil => rw [hx] at eq; simp at eq
      | cons k q => exact ⟨k, q, rfl⟩
    have hql : m.queue.length = q.length + 1 := by rw [hkq]; rfl
    refine w_rd O W 1 (j := 2) rfl rfl ?_
    simp only [oB_some, bC_true, bC_false, vInt_int, vBool_bool, vStr_string, vPtr_pointer, vSl_slice, vMap_map, vFun_func, vAgg_agg, vTup_tuple, lC_cons, lN_nil, aP_some, shO_none, shO_some, Option.isNone_none, Option.isNone_some, Bool.not_true, Bool.not_false]
    refine at1 (j := 0) (w_sl O W 4 rfl) rfl rfl (by omega) ?_
    rw [show m.queue[0]'(by omega) = k from by simp [hkq]]
    obtain ⟨μ1, ρ1, c1, O1, W1, hc1⟩ := w_block O W [] (n := 0) (sz := 1) rfl rfl
    refine w_rd O1 W1 2 (j := 2) rfl rfl ?_
    simp only [oB_some, bC_true, bC_false, vInt_int, vBool_bool, vStr_string, vPtr_pointer, vSl_slice, vMap_map, vFun_func, vAgg_agg, vTup_tuple, lC_cons, lN_nil, aP_some, shO_none, shO_some, Option.isNone_none, Option.isNone_some, Bool.not_true, Bool.not_false]
    rw [show natBnd 1 m.queue.length = some 1 from natBnd_eq (j := 1) (by omega)]
    have hcap := w_cap O1 W1 5 rfl
    simp only [List.length_map, Nat.mul_one] at hcap
    simp only [oB_some, bC_true, bC_false, vInt_int, vBool_bool, vStr_string, vPtr_pointer, vSl_slice, vMap_map, vFun_func, vAgg_agg, vTup_tuple, lC_cons, lN_nil, aP_some, shO_none, shO_some, Option.isNone_none, Option.isNone_some, Bool.not_true, Bool.not_false]
    rw [Nat.ble_eq_true_of_le hcap]
    simp only [oB_some, bC_true, bC_false, vInt_int, vBool_bool, vStr_string, vPtr_pointer, vSl_slice, vMap_map, vFun_func, vAgg_agg, vTup_tuple, lC_cons, lN_nil, aP_some, shO_none, shO_some, Option.isNone_none, Option.isNone_some, Bool.not_true, Bool.not_false]
    refine (w_sl O1 W1 5 rfl).from (1 * 1) fun a' X' => ?_
    refine w_app (P := P) O1 W1 0 (l := []) (n := 0) ti_ty_sl_string ti_ty_string (by decide) rfl rfl X' (m := m.queue.length - 1) (by simp) (by rw [← List.map_drop]; exact allOne_strs) (by omega) (by omega) fun qa qc h2 μ2 ρ2 O2 W2 => ?_
    simp only [oB_some, bC_true, bC_false, vInt_int, vBool_bool, vStr_string, vPtr_pointer, vSl_slice, vMap_map, vFun_func, vAgg_agg, vTup_tuple, lC_cons, lN_nil, aP_some, shO_none, shO_some, Option.isNone_none, Option.isNone_some, Bool.not_true, Bool.not_false]
    refine w_wr O2 W2 2 (j := 2) rfl (by simp [RN.head]) rfl fun h3 ρ3 O3 W3 => ?_
    obtain ⟨μ3, ρ3, O3, W3⟩ := w_swap O3 W3 hc1 4 (by simp)
    refine w_rd O3 W3 1 (j := 1) rfl rfl ?_
    simp only [oB_some, bC_true, bC_false, vInt_int, vBool_bool, vStr_string, vPtr_pointer, vSl_slice, vMap_map, vFun_func, vAgg_agg, vTup_tuple, lC_cons, lN_nil, aP_some, shO_none, shO_some, Option.isNone_none, Option.isNone_some, Bool.not_true, Bool.not_false]
    refine w_i1_wr O3 W3 3 rfl rfl (by simp) (by simpa using hlt) rfl fun h4 ρ4 O4 W4 => ?_
    have e1 : (strs m.queue).drop 1 = strs q := by rw [hkq]; rfl
    have W4 : Pcs ρ ρ4 (co :: ns) (.sl oa oc 1 (strs out) :: RN.rs ⟨N.ns, N.r, N.ta, N.tc, N.sa, N.sc, qa, qc⟩ { m with slots := m.slots.set i k, queue := q }) := W4.eq (by
      simp [RN.rs, RN.head, e1, hql, List.map_set])
    have R4 : RefAt ρ4 ⟨N.ns, N.r, N.ta, N.tc, N.sa, N.sc, qa, qc⟩ { m with slots := m.slots.set i k, queue := q } := by
      subst hns
      exact (⟨(List.nodup_cons.1 W4.nodup).2, by have := W4.len; simpa using this, fun j c r hc hr => W4.at_ (j + 1) c r (by simpa using hc) (by simpa using hr), Fra.refl⟩)
    refine find_ok (N := ⟨N.ns, N.r, N.ta, N.tc, N.sa, N.sc, qa, qc⟩) O4 R4 hnt ?_
    rcases tix_cases m.tasks k with ⟨h1, _⟩ | ⟨j, t, h1, h2, _, hkk, hjl, _⟩
    · exact absurd h1 (hkn k (by rw [hkq]; simp))
    unfold tixI
    rw [h1]
    simp only [oB_some, bC_true, bC_false, vInt_int, vBool_bool, vStr_string, vPtr_pointer, vSl_slice, vMap_map, vFun_func, vAgg_agg, vTup_tuple, lC_cons, lN_nil, aP_some, shO_none, shO_some, Option.isNone_none, Option.isNone_some, Bool.not_true, Bool.not_false]
    refine w_rd O4 W4 1 (j := 0) rfl rfl ?_
    simp only [oB_some, bC_true, bC_false, vInt_int, vBool_bool, vStr_string, vPtr_pointer, vSl_slice, vMap_map, vFun_func, vAgg_agg, vTup_tuple, lC_cons, lN_nil, aP_some, shO_none, shO_some, Option.isNone_none, Option.isNone_some, Bool.not_true, Bool.not_false]
    refine w_ik_wr O4 W4 2 rfl rfl (flat_len tk_len _) hjl (by omega) rfl fun h5 ρ5 O5 W5 => ?_
    rw [flat_set tk_len (by omega) (x' := { t with st := 2 }) rfl _ _ h2] at W5
    refine w_rd O5 W5 1 (j := 0) rfl rfl ?_
    simp only [oB_some, bC_true, bC_false, vInt_int, vBool_bool, vStr_string, vPtr_pointer, vSl_slice, vMap_map, vFun_func, vAgg_agg, vTup_tuple, lC_cons, lN_nil, aP_some, shO_none, shO_some, Option.isNone_none, Option.isNone_some, Bool.not_true, Bool.not_false]
    have hj5 : (m.tasks.set j { t with st := 2 })[j]? = some { t with st := 2 } := by simp [hjl]
    refine (w_sl O5 W5 2 rfl).ix (sz := 5) rfl (by rw [flat_len tk_len]; simp) (by omega) hjl fun i' off _ hr => ?_
    rw [hr 4 (by omega), flat_get tk_len (by omega), hj5]
    simp only [Option.bind_some, tkCells, List.getElem?_cons_succ, List.getElem?_cons_zero, oB_some, bC_true, bC_false, vInt_int, vBool_bool, vStr_string, vPtr_pointer, vSl_slice, vMap_map, vFun_func, vAgg_agg, vTup_tuple, lC_cons, lN_nil, aP_some, shO_none, shO_some, Option.isNone_none, Option.isNone_some, Bool.not_true, Bool.not_false]
    rw [wrapS (by have := hsm t (List.mem_of_getElem? h2); omega)]
    refine w_ik_wr O5 W5 2 rfl rfl (by rw [flat_len tk_len]; simp) hjl (by omega) rfl fun h6 ρ6 O6 W6 => ?_
    rw [flat_set tk_len (by omega) (x' := start t) rfl _ _ hj5] at W6
    obtain ⟨μ7, ρ7, c7, O7, W7, hc7⟩ := w_block O6 W6 (strs [k]) (n := 1) (sz := 1) rfl rfl
    refine w_app (P := P) O7 W7 1 ti_ty_sl_string ti_ty_string (by decide) rfl (by simp) (w_sl O7 W7 0 rfl) rfl rfl (by omega) (by omega) fun oa' oc' h8 μ8 ρ8 O8 W8 => ?_
    simp only [oB_some, bC_true, bC_false, vInt_int, vBool_bool, vStr_string, vPtr_pointer, vSl_slice, vMap_map, vFun_func, vAgg_agg, vTup_tuple, lC_cons, lN_nil, aP_some, shO_none, shO_some, Option.isNone_none, Option.isNone_some, Bool.not_true, Bool.not_false]
    have W8 : Pcs ρ ρ8 (co :: ns) (.sl oa' oc' 1 (strs (fillAt m out i).2) :: RN.rs ⟨N.ns, N.r, N.ta, N.tc, N.sa, N.sc, qa, qc⟩ (fillAt m out i).1) := (W8.tail hc7).eq (by
      rw [fillAt_go hlt e hkq]
      simp [RN.rs, RN.head, upT, upL_len, ← upL_set hnd h2 hkk (f := start), List.set_set])
    have hm : (fillAt m out i).1 = upT { m with slots := m.slots.set i k, queue := q } k start := by rw [fillAt_go hlt e hkq]
    have ho2 : (fillAt m out i).2 = out ++ [k] := by rw [fillAt_go hlt e hkq]
    have hsl' : (fillAt m out i).1.slots.length = m.slots.length := by rw [hm]; simp [upT]
    have hkeys : keys (fillAt m out i).1.tasks = keys m.tasks := by rw [hm]; exact upL_keys (f := start) (fun _ => rfl) _
    rw [show out.length + 1 = (fillAt m out i).2.length from by rw [ho2]; simp]
    refine ih (i + 1) (N := ⟨N.ns, N.r, N.ta, N.tc, N.sa, N.sc, qa, qc⟩) (m := (fillAt m out i).1) (by omega) (by omega) (by omega) (by rw [ho2]; simp; omega) hns rfl (by rw [hkeys]; exact hnd) (fun k' hk' => ?_) (fun t' ht' => ?_) ?_ ?_ O8 W8.self ?_
    · rw [tix_keys k' hkeys]
      refine hkn k' ?_
      rw [hm] at hk'
      rw [hkq]; exact List.mem_cons_of_mem _ hk'
    · rw [hm] at ht'
      have := upL_small (B := 1000000 - (n + 1)) (fun t ht => by have := hsm t ht; omega) t' ht'
      omega
    · rw [hm]; simp only [upT, upL_len]; exact hnt
    · rw [hm]; simp only [upT]; omega
    · intro h' μ' ρ' N' oa'' oc'' O' W' a b
      have e2 : fillFrom (n + 1) m out i = fillFrom n (fillAt m out i).1 (fillAt m out i).2 (i + 1) := rfl
      rw [e2] at hq
      exact hq h' μ' ρ' N' oa'' oc'' O' (W'.back W8.fra) a b
theorem fill_ok {N : RN} {m : M} (O : Own h μ ρ) (R : RefAt ρ N m) (hsl : m.slots.length ≤ 1000) (K : FillOk m)
    (hq : ∀ h' μ' ρ' (N' : RN) co oa oc, Own h' μ' ρ' → Pcs ρ ρ' (co :: N.ns) (.sl oa oc 1 (strs (fillFrom m.slots.length m [] 0).2) :: N'.rs (fillFrom m.slots.length m [] 0).1) → ρ co = none → N'.ns = N.ns → N'.r = N.r → Q (.slice oa (fillFrom m.slots.length m [] 0).2.length oc) h') :
    EvQ P f_p_brickyardref20_Sched_Fill [.pointer (some ⟨N.r, 0, none⟩)] h Q := by
  refine r_p_brickyardref20_Sched_Fill ?_
  obtain ⟨ρ1, co, O1, W1, hco⟩ := w_nil O R 1
  refine fill_loop (co := co) (ns := N.ns) (out := []) m.slots.length 0 rfl (by omega) hsl (by simp) rfl rfl K.nodup K.known K.small K.nt K.nq O1 (W1.self : Pcs ρ1 ρ1 (co :: N.ns) (.sl none 0 1 (strs []) :: N.rs m)) ?_
  intro h' μ' ρ' N' oa' oc' O' W' a b
  exact hq h' μ' ρ' N' co oa' oc' O' (W'.back W1.fra) hco a b

theorem pick_loop {N : RN} {m : M} {n : Int} (O : Own h μ ρ) (R : RefAt ρ N m) (hw : 0 < m.slots.length) (hl : m.slots.length ≤ 1000) :
    ∀ (d i : Nat), m.slots.length - i = d → i ≤ m.slots.length → (Q (.tuple ⟨match pickFrom m.slots (pickAt m.slots.length n) d i with | some s => [.string s, .bool true] | none => [.string e0, .bool false]⟩) h) →
    unitAt P f_p_brickyardref20_Sched_Pick 6 [0, 6, 7, 8] [.pointer (some ⟨N.r, 0, none⟩), .int .i64 (m.slots.length : Int), .int .i64 (pickAt m.slots.length n : Int), .int .i64 (i : Int)] h Q := by
  intro d
  induction d with
  | zero =>
    intro i hd hi hq
    refine r_p_brickyardref20_Sched_Pick_6 ?_
    rw [geI (by omega)]
    exact hq
  | succ d ih =>
    intro i hd hi hq
    have hlt : i < m.slots.length := by omega
    have ha := pickAt_lt hw n
    refine r_p_brickyardref20_Sched_Pick_6 ?_
    rw [ltI hlt]
    simp only [oB_some, bC_true, bC_false, vInt_int, vBool_bool, vStr_string, vPtr_pointer, vSl_slice, vMap_map, vFun_func, vAgg_agg, vTup_tuple, lC_cons, lN_nil, aP_some, shO_none, shO_some, Option.isNone_none, Option.isNone_some, Bool.not_true, Bool.not_false]
    refine w_rd O R 0 (j := 1) rfl rfl ?_
    simp only [oB_some, bC_true, bC_false, vInt_int, vBool_bool, vStr_string, vPtr_pointer, vSl_slice, vMap_map, vFun_func, vAgg_agg, vTup_tuple, lC_cons, lN_nil, aP_some, shO_none, shO_some, Option.isNone_none, Option.isNone_some, Bool.not_true, Bool.not_false]
    rw [show decide ((m.slots.length : Int) = 0) = false from decide_eq_false (by omega)]
    simp only [oB_some, bC_true, bC_false, vInt_int, vBool_bool, vStr_string, vPtr_pointer, vSl_slice, vMap_map, vFun_func, vAgg_agg, vTup_tuple, lC_cons, lN_nil, aP_some, shO_none, shO_some, Option.isNone_none, Option.isNone_some, Bool.not_true, Bool.not_false]
    have hm : (pickAt m.slots.length n + i) % m.slots.length < m.slots.length := Nat.mod_lt _ hw
    rw [show IntKind.wrap .i64 ((pickAt m.slots.length n : Int) + (i : Int)) = ((pickAt m.slots.length n + i : Nat) : Int) from by rw [wrap_small (n := (pickAt m.slots.length n : Int) + (i : Int)) (by omega) (by omega)]; omega, tmod_nat]
    refine at1 (w_sl O R 2 rfl) rfl rfl hm ?_
    rw [wrapS (by omega)]
    have hg : m.slots.getD ((pickAt m.slots.length n + i) % m.slots.length) e0 = m.slots[(pickAt m.slots.length n + i) % m.slots.length] := by simp [List.getD_eq_getElem?_getD, hm]
    rw [pickFrom, hg] at hq
    refine bC_iff (fun e => ?_) (fun e => ?_)
    · have e : m.slots[(pickAt m.slots.length n + i) % m.slots.length] ≠ e0 := by simpa [bEq_false] using e
      rw [if_neg e] at hq; exact hq
    · have e : m.slots[(pickAt m.slots.length n + i) % m.slots.length] = e0 := by simpa [bEq_iff] using e
      rw [if_pos e] at hq
      exact ih (i + 1) (by omega) (by omega) hq
def pickV (m : M) (n : Int) : Value := .tuple ⟨match pick m n with | some s => [.string s, .bool true] | none => [.string e0, .bool false]⟩
theorem pick_ok {N : RN} {m : M} {n : Int} (O : Own h μ ρ) (R : RefAt ρ N m) (hw : 0 < m.slots.length) (hl : m.slots.length ≤ 1000) (hq : Q (pickV m n) h) :
    EvQ P f_p_brickyardref20_Sched_Pick [.pointer (some ⟨N.r, 0, none⟩), .int .i64 n] h Q := by
  refine r_p_brickyardref20_Sched_Pick ?_
  simp only [oB_some, bC_true, bC_false, vInt_int, vBool_bool, vStr_string, vPtr_pointer, vSl_slice, vMap_map, vFun_func, vAgg_agg, vTup_tuple, lC_cons, lN_nil, aP_some, shO_none, shO_some, Option.isNone_none, Option.isNone_some, Bool.not_true, Bool.not_false]
  refine w_rd O R 0 (j := 1) rfl rfl ?_
  simp only [oB_some, bC_true, bC_false, vInt_int, vBool_bool, vStr_string, vPtr_pointer, vSl_slice, vMap_map, vFun_func, vAgg_agg, vTup_tuple, lC_cons, lN_nil, aP_some, shO_none, shO_some, Option.isNone_none, Option.isNone_some, Bool.not_true, Bool.not_false]
  rw [show decide ((m.slots.length : Int) = 0) = false from decide_eq_false (by omega)]
  simp only [oB_some, bC_true, bC_false, vInt_int, vBool_bool, vStr_string, vPtr_pointer, vSl_slice, vMap_map, vFun_func, vAgg_agg, vTup_tuple, lC_cons, lN_nil, aP_some, shO_none, shO_some, Option.isNone_none, Option.isNone_some, Bool.not_true, Bool.not_false]
  have h0 := tmod_range hw n
  have h1 := tmod_fix hw n
  refine bC_iff (fun e => ?_) (fun e => ?_)
  · rw [if_pos (by simpa using e)] at h1
    rw [wrap_small (n := Int.tmod n m.slots.length + m.slots.length) (by omega) (by omega), h1]
    exact pick_loop O R hw hl _ 0 rfl (by omega) hq
  · rw [if_neg (by simpa using e)] at h1
    rw [h1]
    exact pick_loop O R hw hl _ 0 rfl (by omega) hq

theorem circle_end {co : Nat} {N : RN} {m : M} {x : List Str} (hx : x.length ≤ 100000) (h0 : 0 < x.length) {oa : Option Addr} {oc : Nat} {ρ0 : Store} (hco : ρ0 co = none)  :
    ∀ (d k cur : Nat) {h : AW} {μ : Paint} {ρ : Store}, x.length - k = d → k ≤ x.length → cur < x.length → Own h μ ρ → Pcs ρ0 ρ (co :: N.ns) (.sl oa oc 1 (strs x) :: N.rs m) →
    (∀ h' μ' ρ' co oa oc, Own h' μ' ρ' → Pcs ρ0 ρ' (co :: N.ns) (.sl oa oc 1 (strs (x.drop (least x d k cur) ++ x.take (least x d k cur))) :: N.rs m) → ρ0 co = none → Q (.slice oa x.length oc) h') →
    unitAt P f_p_brickyardref20_Sched_Circle 14 [5, 9, 10] [.slice oa x.length oc, .int .i64 (cur : Int), .int .i64 (k : Int)] h Q := by
  intro d
  induction d with
  | zero =>
    intro k cur h μ ρ hd hk hc O W hq
    refine r_p_brickyardref20_Sched_Circle_14 ?_
    rw [geI (by omega)]
    have hcap := w_cap O W 0 rfl
    simp only [List.length_map, Nat.mul_one] at hcap
    obtain ⟨i, off, rfl⟩ : ∃ i off, oa = some ⟨i, off, none⟩ := by
      rcases w_sl O W 0 rfl with ⟨_, e⟩ | ⟨i, off, e, _⟩
      · simp at e; subst e; simp at h0
      · exact ⟨i, off, e⟩
    simp only [oB_some, bC_true, bC_false, vInt_int, vBool_bool, vStr_string, vPtr_pointer, vSl_slice, vMap_map, vFun_func, vAgg_agg, vTup_tuple, lC_cons, lN_nil, aP_some, shO_none, shO_some, Option.isNone_none, Option.isNone_some, Bool.not_true, Bool.not_false]
    rw [natBnd_eq (Nat.le_of_lt hc), natBnd_eq (show cur ≤ oc by omega), Nat.ble_eq_true_of_le hcap]
    simp only [oB_some, bC_true, bC_false, vInt_int, vBool_bool, vStr_string, vPtr_pointer, vSl_slice, vMap_map, vFun_func, vAgg_agg, vTup_tuple, lC_cons, lN_nil, aP_some, shO_none, shO_some, Option.isNone_none, Option.isNone_some, Bool.not_true, Bool.not_false, Nat.ble_eq_true_of_le (show cur ≤ oc by omega)]
    obtain ⟨μ1, ρ1, c1, O1, W1, hc1⟩ := w_block O W [] (n := 0) (sz := 1) rfl rfl
    have X1 : Sl (h.addVar []) (some ⟨i, off + cur * 1, none⟩) (strs (x.drop cur)) := by
      rcases w_sl O1 W1 1 rfl with ⟨e, _⟩ | ⟨i', off', e, hr⟩
      · cases e
      · cases e
        refine .inr ⟨_, _, rfl, fun j hj => ?_⟩
        simp at hj
        have := hr (cur + j) (by simp; omega)
        rw [show off + cur * 1 + j = off + (cur + j) from by omega, this]
        simp
    refine w_app (P := P) O1 W1 0 (l := []) (n := 0) ti_ty_sl_string ti_ty_string (by decide) rfl rfl X1 (m := x.length - cur) (by simp) allOne_strs (by omega) (by omega) fun qa qc h2 μ2 ρ2 O2 W2 => ?_
    simp only [oB_some, bC_true, bC_false, vInt_int, vBool_bool, vStr_string, vPtr_pointer, vSl_slice, vMap_map, vFun_func, vAgg_agg, vTup_tuple, lC_cons, lN_nil, aP_some, shO_none, shO_some, Option.isNone_none, Option.isNone_some, Bool.not_true, Bool.not_false]
    have X2 : Sl h2 (some ⟨i, off, none⟩) (strs (x.take cur)) := by
      have := (w_sl O2 W2 1 rfl).take cur
      simpa [List.map_take] using this
    refine w_app (P := P) O2 W2 0 ti_ty_sl_string ti_ty_string (by decide) rfl (by simp) X2 (m := cur - 0) (by simp; omega) allOne_strs (by omega) (by omega) fun qa qc h3 μ3 ρ3 O3 W3 => ?_
    simp only [oB_some, bC_true, bC_false, vInt_int, vBool_bool, vStr_string, vPtr_pointer, vSl_slice, vMap_map, vFun_func, vAgg_agg, vTup_tuple, lC_cons, lN_nil, aP_some, shO_none, shO_some, Option.isNone_none, Option.isNone_some, Bool.not_true, Bool.not_false]
    refine ⟨trivial, trivial, trivial, ?_⟩
    rw [show 0 + (x.length - cur) + (cur - 0) = x.length from by omega]
    have W4 : Pcs ρ0 ρ3 (c1 :: N.ns) (.sl qa qc 1 (strs (x.drop cur ++ x.take cur)) :: N.rs m) := by
      refine ⟨?_, by simpa using W3.len, fun j c r hj hr => ?_, fun c r hn hc => ?_⟩
      · have := W3.nodup
        simp only [List.nodup_cons, List.mem_cons, not_or] at this ⊢
        exact ⟨this.1.2, this.2.2⟩
      · cases j with
        | zero => refine W3.at_ 0 c r hj ?_; simpa using hr
        | succ j => exact W3.at_ (j + 2) c r hj (by simpa using hr)
      · exact W3.fra c r (fun y => by
          simp only [List.mem_cons, not_or] at y hn
          rcases y with y | y | y
          · exact hn.1 y
          · rw [y, hco] at hc; cases hc
          · exact hn.2 y) hc
    exact hq _ _ _ _ _ _ O3 W4 hc1
  | succ d ih =>
    intro k cur h μ ρ hd hk hc O W hq
    have hlt : k < x.length := by omega
    refine r_p_brickyardref20_Sched_Circle_14 ?_
    rw [ltI hlt]
    simp only [oB_some, bC_true, bC_false, vInt_int, vBool_bool, vStr_string, vPtr_pointer, vSl_slice, vMap_map, vFun_func, vAgg_agg, vTup_tuple, lC_cons, lN_nil, aP_some, shO_none, shO_some, Option.isNone_none, Option.isNone_some, Bool.not_true, Bool.not_false]
    refine at1 (w_sl O W 0 rfl) rfl rfl hlt ?_
    refine at1 (w_sl O W 0 rfl) rfl rfl hc ?_
    rw [wrapS (by omega)]
    have e : least x (d + 1) k cur = least x d (k + 1) (if less x[k] x[cur] then k else cur) := by
      rw [least]
      simp [List.getD_eq_getElem?_getD, hlt, hc]
    rw [e] at hq
    refine bC_iff (fun e => ?_) (fun e => ?_)
    · have e : less x[k] x[cur] = true := e
      rw [if_pos e] at hq
      exact ih (k + 1) k (by omega) (by omega) hlt O W hq
    · have e : less x[k] x[cur] = false := e
      rw [if_neg (by simp [e])] at hq
      exact ih (k + 1) cur (by omega) (by omega) hc O W hq
end Go.Proofs.Ytgdkekdedgkglaa
end

section
/- The document's scheduler: waiting, ending, making. -/
namespace Go.Proofs.Ytgdkekdedgkglaa
open Go.Abs Go.Abs.Sch
set_option maxRecDepth 100000
attribute [local irreducible] unitAt EvQ
variable {h : AW} {μ : Paint} {ρ : Store} {Q : Value → AW → Prop}

theorem circle_loop {key : Str} {N : RN} {m : M} (hl : m.tasks.length ≤ 10000) {ρ0 : Store} :
    ∀ (d i : Nat) {h : AW} {μ : Paint} {ρ : Store} {at_ : Str} {out : List Str} {co : Nat} {oa : Option Addr} {oc : Nat}, m.tasks.length + 1 - i = d → out.length = i → i ≤ m.tasks.length + 1 → ρ0 co = none → Own h μ ρ → Pcs ρ0 ρ (co :: N.ns) (.sl oa oc 1 (strs out) :: N.rs m) →
    (∀ h' μ' ρ' co oa oc, Own h' μ' ρ' → Pcs ρ0 ρ' (co :: N.ns) (.sl oa oc 1 (strs (match chase m.tasks key d at_ out with | some x => turnL x | none => [])) :: N.rs m) → ρ0 co = none → Q (.slice oa (match chase m.tasks key d at_ out with | some x => turnL x | none => []).length oc) h') →
    unitAt P f_p_brickyardref20_Sched_Circle 4 [0, 1, 5, 6, 7] [.pointer (some ⟨N.r, 0, none⟩), .string key, .slice oa out.length oc, .string at_, .int .i64 (i : Int)] h Q := by
  intro d
  have nil : ∀ {h : AW} {μ : Paint} {ρ : Store} {co : Nat} {r : Res}, Own h μ ρ → Pcs ρ0 ρ (co :: N.ns) (r :: N.rs m) → ρ0 co = none →
      (∀ h' μ' ρ' co oa oc, Own h' μ' ρ' → Pcs ρ0 ρ' (co :: N.ns) (.sl oa oc 1 (strs []) :: N.rs m) → ρ0 co = none → Q (.slice oa 0 oc) h') → Q (.slice none 0 0) h := by
    intro h μ ρ co r O W hco hq
    obtain ⟨ρ1, c1, O1, W1, h1⟩ := w_nil O (W.tail hco) 1
    exact hq _ _ _ _ _ _ O1 W1 h1
  induction d with
  | zero =>
    intro i h μ ρ at_ out co oa oc hd ho hi hco O W hq
    refine r_p_brickyardref20_Sched_Circle_4 ?_
    simp only [oB_some, bC_true, bC_false, vInt_int, vBool_bool, vStr_string, vPtr_pointer, vSl_slice, vMap_map, vFun_func, vAgg_agg, vTup_tuple, lC_cons, lN_nil, aP_some, shO_none, shO_some, Option.isNone_none, Option.isNone_some, Bool.not_true, Bool.not_false]
    refine w_rd O W 1 (j := 0) rfl rfl ?_
    simp only [oB_some, bC_true, bC_false, vInt_int, vBool_bool, vStr_string, vPtr_pointer, vSl_slice, vMap_map, vFun_func, vAgg_agg, vTup_tuple, lC_cons, lN_nil, aP_some, shO_none, shO_some, Option.isNone_none, Option.isNone_some, Bool.not_true, Bool.not_false]
    rw [show decide ((i : Int) ≤ (m.tasks.length : Int)) = false from decide_eq_false (by omega)]
    simp only [oB_some, bC_true, bC_false, vInt_int, vBool_bool, vStr_string, vPtr_pointer, vSl_slice, vMap_map, vFun_func, vAgg_agg, vTup_tuple, lC_cons, lN_nil, aP_some, shO_none, shO_some, Option.isNone_none, Option.isNone_some, Bool.not_true, Bool.not_false]
    exact nil O W hco hq
  | succ d ih =>
    intro i h μ ρ at_ out co oa oc hd ho hi hco O W hq
    refine r_p_brickyardref20_Sched_Circle_4 ?_
    simp only [oB_some, bC_true, bC_false, vInt_int, vBool_bool, vStr_string, vPtr_pointer, vSl_slice, vMap_map, vFun_func, vAgg_agg, vTup_tuple, lC_cons, lN_nil, aP_some, shO_none, shO_some, Option.isNone_none, Option.isNone_some, Bool.not_true, Bool.not_false]
    refine w_rd O W 1 (j := 0) rfl rfl ?_
    simp only [oB_some, bC_true, bC_false, vInt_int, vBool_bool, vStr_string, vPtr_pointer, vSl_slice, vMap_map, vFun_func, vAgg_agg, vTup_tuple, lC_cons, lN_nil, aP_some, shO_none, shO_some, Option.isNone_none, Option.isNone_some, Bool.not_true, Bool.not_false]
    rw [show decide ((i : Int) ≤ (m.tasks.length : Int)) = true from decide_eq_true (by omega)]
    simp only [oB_some, bC_true, bC_false, vInt_int, vBool_bool, vStr_string, vPtr_pointer, vSl_slice, vMap_map, vFun_func, vAgg_agg, vTup_tuple, lC_cons, lN_nil, aP_some, shO_none, shO_some, Option.isNone_none, Option.isNone_some, Bool.not_true, Bool.not_false]
    have R : RefAt ρ N m := W.self.tail'
    refine find_ok (N := N) O R (by simp [big]; omega) ?_
    rw [chase] at hq
    rcases tix_cases m.tasks at_ with ⟨h1, h2, _⟩ | ⟨j, t, h1, h2, h3, hkk, hjl, _⟩
    · unfold tixI; rw [h1]; rw [h2] at hq
      simp only [oB_some, bC_true, bC_false, vInt_int, vBool_bool, vStr_string, vPtr_pointer, vSl_slice, vMap_map, vFun_func, vAgg_agg, vTup_tuple, lC_cons, lN_nil, aP_some, shO_none, shO_some, Option.isNone_none, Option.isNone_some, Bool.not_true, Bool.not_false, show decide ((-1 : Int) < 0) = true from rfl]
      exact nil O W hco hq
    unfold tixI; rw [h1]; rw [h3] at hq
    simp only [oB_some, bC_true, bC_false, vInt_int, vBool_bool, vStr_string, vPtr_pointer, vSl_slice, vMap_map, vFun_func, vAgg_agg, vTup_tuple, lC_cons, lN_nil, aP_some, shO_none, shO_some, Option.isNone_none, Option.isNone_some, Bool.not_true, Bool.not_false, show decide ((j : Int) < 0) = false from decide_eq_false (by omega)]
    refine w_rd O W 1 (j := 0) rfl rfl ?_
    simp only [oB_some, bC_true, bC_false, vInt_int, vBool_bool, vStr_string, vPtr_pointer, vSl_slice, vMap_map, vFun_func, vAgg_agg, vTup_tuple, lC_cons, lN_nil, aP_some, shO_none, shO_some, Option.isNone_none, Option.isNone_some, Bool.not_true, Bool.not_false]
    refine tk_ix (N := N) O R rfl rfl h2 fun i' off hr => ?_
    rw [hr 1 (by omega)]
    simp only [tkCells, List.getElem?_cons_succ, List.getElem?_cons_zero, oB_some, bC_true, bC_false, vInt_int, vBool_bool, vStr_string, vPtr_pointer, vSl_slice, vMap_map, vFun_func, vAgg_agg, vTup_tuple, lC_cons, lN_nil, aP_some, shO_none, shO_some, Option.isNone_none, Option.isNone_some, Bool.not_true, Bool.not_false]
    refine bC_iff (fun e => ?_) (fun e => ?_)
    · have e : ¬ t.st = 3 := by simp at e; omega
      simp only at hq
      rw [if_neg e] at hq
      exact nil O W hco hq
    have e : t.st = 3 := by simp at e; omega
    simp only at hq
    rw [if_pos e] at hq
    obtain ⟨μ1, ρ1, c1, O1, W1, hc1⟩ := w_block O W (strs [at_]) (n := 1) (sz := 1) rfl rfl
    refine w_app (P := P) O1 W1 1 ti_ty_sl_string ti_ty_string (by decide) rfl (by simp) (w_sl O1 W1 0 rfl) rfl rfl (by omega) (by omega) fun oa oc hh2 μ2 ρ2 O2 W2 => ?_
    simp only [oB_some, bC_true, bC_false, vInt_int, vBool_bool, vStr_string, vPtr_pointer, vSl_slice, vMap_map, vFun_func, vAgg_agg, vTup_tuple, lC_cons, lN_nil, aP_some, shO_none, shO_some, Option.isNone_none, Option.isNone_some, Bool.not_true, Bool.not_false]
    have W2 := (W2.tail hc1).eq (rs' := .sl oa oc 1 (strs (out ++ [at_])) :: N.rs m) (by simp)
    have R2 : RefAt ρ2 N m := W2.self.tail'
    refine w_rd O2 W2 1 (j := 0) rfl rfl ?_
    simp only [oB_some, bC_true, bC_false, vInt_int, vBool_bool, vStr_string, vPtr_pointer, vSl_slice, vMap_map, vFun_func, vAgg_agg, vTup_tuple, lC_cons, lN_nil, aP_some, shO_none, shO_some, Option.isNone_none, Option.isNone_some, Bool.not_true, Bool.not_false]
    refine tk_ix (N := N) O2 R2 rfl rfl h2 fun i' off hr => ?_
    rw [hr 2 (by omega)]
    simp only [tkCells, List.getElem?_cons_succ, List.getElem?_cons_zero, oB_some, bC_true, bC_false, vInt_int, vBool_bool, vStr_string, vPtr_pointer, vSl_slice, vMap_map, vFun_func, vAgg_agg, vTup_tuple, lC_cons, lN_nil, aP_some, shO_none, shO_some, Option.isNone_none, Option.isNone_some, Bool.not_true, Bool.not_false]
    rw [show out.length + 1 = (out ++ [at_]).length from by simp]
    refine bC_iff (fun e => ?_) (fun e => ?_)
    · have e : t.on = key := bEq_iff.1 e
      rw [if_pos e] at hq
      refine circle_end (co := co) (by simp; omega) (by simp) hco _ 1 0 rfl (by simp) (by simp) O2 W2 ?_
      intro h' μ' ρ' co' oa' oc' O' W' hco'
      have := hq h' μ' ρ' co' oa' oc' O' W' hco'
      have hlen : (turnL (out ++ [at_])).length = (out ++ [at_]).length := by
        unfold turnL
        have := least_lt (x := out ++ [at_]) ((out ++ [at_]).length - 1) 1 0 (by simp; omega) (by simp)
        rw [List.length_append, List.length_drop, List.length_take]; omega
      rw [hlen] at this; exact this
    · have e : ¬ t.on = key := bEq_false.1 e
      rw [if_neg e] at hq
      rw [wrapS (by omega)]
      exact ih (i + 1) (by omega) (by simp; omega) (by omega) hco O2 W2 hq
theorem circle_ok {key : Str} {N : RN} {m : M} (hl : m.tasks.length ≤ 10000) (O : Own h μ ρ) (R : RefAt ρ N m)
    (hq : ∀ h' μ' ρ' co oa oc, Own h' μ' ρ' → Pcs ρ ρ' (co :: N.ns) (.sl oa oc 1 (strs (circleR m.tasks key)) :: N.rs m) → ρ co = none → Q (.slice oa (circleR m.tasks key).length oc) h') :
    EvQ P f_p_brickyardref20_Sched_Circle [.pointer (some ⟨N.r, 0, none⟩), .string key] h Q := by
  refine r_p_brickyardref20_Sched_Circle ?_
  obtain ⟨ρ1, co, O1, W1, hco⟩ := w_nil O R 1
  exact circle_loop hl _ 0 (out := []) rfl rfl (by omega) hco O1 W1 hq

theorem upd_tasks {N : RN} {m : M} {l : List Tk} {ρ0 ρ' : Store} (W : Pcs ρ0 ρ' N.ns ((N.rs m).set 1 (.sl N.ta N.tc 5 (tcs l)))) (hl : l.length = m.tasks.length) : Pcs ρ0 ρ' N.ns (N.rs { m with tasks := l }) :=
  W.eq (by simp [RN.rs, RN.head, hl])
/-- Waiting. -/
theorem wait_ok {key on : Str} {N : RN} {m : M} (O : Own h μ ρ) (R : RefAt ρ N m) (hl : m.tasks.length ≤ 1000) (hql : m.queue.length ≤ 1000) (hsl : m.slots.length ≤ 1000) (hc : m.clock ≤ 1000) (hnd : (keys m.tasks).Nodup)
    (hq : ∀ h' μ' ρ' (N' : RN) co oa oc, Own h' μ' ρ' → Pcs ρ ρ' (co :: N.ns) (.sl oa oc 1 (strs (waitR m key on).1) :: N'.rs (waitR m key on).2.2) → ρ co = none → N'.ns = N.ns → N'.r = N.r →
      Q (.tuple ⟨[.slice oa (waitR m key on).1.length oc, .int .i64 ((waitR m key on).2.1 : Nat)]⟩) h') :
    EvQ P f_p_brickyardref20_Sched_Wait [.pointer (some ⟨N.r, 0, none⟩), .string key, .string on] h Q := by
  have nil : ∀ {n : Nat}, waitR m key on = ([], n, m) → Q (.tuple ⟨[.slice none 0 0, .int .i64 (n : Nat)]⟩) h := by
    intro n e
    rw [e] at hq
    obtain ⟨ρ1, co, O1, W1, hco⟩ := w_nil O R 1
    exact hq _ _ _ N _ _ _ O1 W1 hco rfl rfl
  refine r_p_brickyardref20_Sched_Wait ?_
  refine bC_iff (fun e => ?_) (fun e => ?_)
  · have e : on = e0 := bEq_iff.1 e
    exact nil (by unfold waitR; rw [if_pos e])
  have e1 : ¬ on = e0 := bEq_false.1 e
  have hbig : m.tasks.length < big := by simp [big]; omega
  refine state_ok O R hbig ?_
  simp only [oB_some, bC_true, bC_false, vInt_int, vBool_bool, vStr_string, vPtr_pointer, vSl_slice, vMap_map, vFun_func, vAgg_agg, vTup_tuple, lC_cons, lN_nil, aP_some, shO_none, shO_some, Option.isNone_none, Option.isNone_some, Bool.not_true, Bool.not_false]
  refine bC_iff (fun e => ?_) (fun e => ?_)
  · have e : stOf m.tasks key ≠ 2 := by simp at e; omega
    exact nil (by unfold waitR; rw [if_neg e1, if_pos e])
  have e2 : ¬ stOf m.tasks key ≠ 2 := by simp at e; omega
  refine state_ok O R hbig ?_
  simp only [oB_some, bC_true, bC_false, vInt_int, vBool_bool, vStr_string, vPtr_pointer, vSl_slice, vMap_map, vFun_func, vAgg_agg, vTup_tuple, lC_cons, lN_nil, aP_some, shO_none, shO_some, Option.isNone_none, Option.isNone_some, Bool.not_true, Bool.not_false]
  refine bC_iff (fun e => ?_) (fun e => ?_)
  · have e : stOf m.tasks on = 4 := by simp at e; omega
    exact nil (by unfold waitR; rw [if_neg e1, if_neg e2, if_pos e])
  have e3 : ¬ stOf m.tasks on = 4 := by simp at e; omega
  obtain ⟨μ1, ρ1, c1, O1, W1, hc1⟩ := w_block O R (strs [on]) (n := 1) (sz := 1) rfl rfl
  have X1 : Rd ρ1 N.ns (some ⟨h.next, 0, none⟩) (strs [on]) := Rd.of_sl O1 (List.nodup_cons.1 W1.nodup).1 (W1.at_ 0 _ _ rfl rfl)
  refine want_ok (N := N) (m := m) (ks := [on]) (by simp) O1 W1.self.tail' X1 (by simp; omega) (by simp; omega) fun h2 μ2 ρ2 N2 O2 R2 a2 b2 F2 => ?_
  have hwi : (wantI m [on]).2 = want1 m on := by
    unfold wantI
    rw [if_neg (by rw [memB_iff]; simpa using fun x => e1 x.symm)]; rfl
  rw [hwi] at R2
  have hkey : ∃ j t, tix (want1 m on).tasks key = some j ∧ (want1 m on).tasks[j]? = some t ∧ t.key = key ∧ j < (want1 m on).tasks.length := by
    rcases tix_cases (want1 m on).tasks key with ⟨_, _, h3⟩ | ⟨j, t, h1, h2, _, h4, h5, _⟩
    · exfalso
      rcases tix_cases m.tasks key with ⟨_, g2, _⟩ | ⟨j, t, _, g2, _, g4, _⟩
      · unfold stOf at e2; rw [g2] at e2; simp at e2
      · refine h3 t ?_ g4
        unfold want1
        split
        · exact List.mem_of_getElem? g2
        · exact List.mem_append_left _ (List.mem_of_getElem? g2)
    · exact ⟨j, t, h1, h2, h4, h5⟩
  have hlw : (want1 m on).tasks.length ≤ m.tasks.length + 1 := by unfold want1; split <;> simp
  have hcl : (want1 m on).clock = m.clock := by unfold want1; split <;> rfl
  have hss : (want1 m on).slots = m.slots := by unfold want1; split <;> rfl
  have hndw : (keys (want1 m on).tasks).Nodup := by
    unfold want1
    rcases tix_cases m.tasks on with ⟨g1, _, g3⟩ | ⟨j, t, g1, _⟩
    · rw [g1]
      simp only [keys, List.map_append, List.map_cons, List.map_nil]
      rw [List.nodup_append]
      refine ⟨hnd, by simp, fun a ha b hb => ?_⟩
      simp at hb; subst hb
      obtain ⟨t, ht, e⟩ := List.mem_map.1 ha
      rw [← e]; exact g3 t ht
    · rw [g1]; exact hnd
  have hwr : waitR m key on = (circleR (upL (want1 m on).tasks key fun t => { t with st := 3, on := on, since := m.clock + 1 }) key, 0, ⟨upL (want1 m on).tasks key fun t => { t with st := 3, on := on, since := m.clock + 1 }, leaveL m.slots key, (want1 m on).queue, m.clock + 1⟩) := by
    unfold waitR; rw [if_neg e1, if_neg e2, if_neg e3]; simp only; rw [hss]
  rw [hwr] at hq
  generalize want1 m on = w at *
  obtain ⟨j, t, g1, g2, g3, g4⟩ := hkey
  rw [← b2]
  simp only [oB_some, bC_true, bC_false, vInt_int, vBool_bool, vStr_string, vPtr_pointer, vSl_slice, vMap_map, vFun_func, vAgg_agg, vTup_tuple, lC_cons, lN_nil, aP_some, shO_none, shO_some, Option.isNone_none, Option.isNone_some, Bool.not_true, Bool.not_false]
  refine find_ok O2 R2 (by simp [big]; omega) ?_
  unfold tixI; rw [g1]
  simp only [oB_some, bC_true, bC_false, vInt_int, vBool_bool, vStr_string, vPtr_pointer, vSl_slice, vMap_map, vFun_func, vAgg_agg, vTup_tuple, lC_cons, lN_nil, aP_some, shO_none, shO_some, Option.isNone_none, Option.isNone_some, Bool.not_true, Bool.not_false]
  refine w_rd O2 R2 0 (j := 3) rfl rfl ?_
  simp only [oB_some, bC_true, bC_false, vInt_int, vBool_bool, vStr_string, vPtr_pointer, vSl_slice, vMap_map, vFun_func, vAgg_agg, vTup_tuple, lC_cons, lN_nil, aP_some, shO_none, shO_some, Option.isNone_none, Option.isNone_some, Bool.not_true, Bool.not_false]
  rw [hcl, wrapS (by omega)]
  refine w_wr O2 R2 0 (j := 3) rfl (by simp [RN.head]) rfl fun h3 ρ3 O3 W3 => ?_
  refine w_rd O3 W3 0 (j := 0) rfl rfl ?_
  simp only [oB_some, bC_true, bC_false, vInt_int, vBool_bool, vStr_string, vPtr_pointer, vSl_slice, vMap_map, vFun_func, vAgg_agg, vTup_tuple, lC_cons, lN_nil, aP_some, shO_none, shO_some, Option.isNone_none, Option.isNone_some, Bool.not_true, Bool.not_false]
  refine w_rd O3 W3 0 (j := 0) rfl rfl ?_
  simp only [oB_some, bC_true, bC_false, vInt_int, vBool_bool, vStr_string, vPtr_pointer, vSl_slice, vMap_map, vFun_func, vAgg_agg, vTup_tuple, lC_cons, lN_nil, aP_some, shO_none, shO_some, Option.isNone_none, Option.isNone_some, Bool.not_true, Bool.not_false]
  refine w_rd O3 W3 0 (j := 0) rfl rfl ?_
  simp only [oB_some, bC_true, bC_false, vInt_int, vBool_bool, vStr_string, vPtr_pointer, vSl_slice, vMap_map, vFun_func, vAgg_agg, vTup_tuple, lC_cons, lN_nil, aP_some, shO_none, shO_some, Option.isNone_none, Option.isNone_some, Bool.not_true, Bool.not_false]
  refine w_rd O3 W3 0 (j := 3) rfl rfl ?_
  simp only [oB_some, bC_true, bC_false, vInt_int, vBool_bool, vStr_string, vPtr_pointer, vSl_slice, vMap_map, vFun_func, vAgg_agg, vTup_tuple, lC_cons, lN_nil, aP_some, shO_none, shO_some, Option.isNone_none, Option.isNone_some, Bool.not_true, Bool.not_false]
  refine w_ik_wr O3 W3 1 rfl rfl (flat_len tk_len _) g4 (by omega) rfl fun h4 ρ4 O4 W4 => ?_
  rw [flat_set tk_len (by omega) (x' := { t with st := 3 }) rfl _ _ g2] at W4
  refine w_ik_wr O4 W4 1 rfl rfl (by rw [flat_len tk_len]; simp) g4 (by omega) rfl fun h5 ρ5 O5 W5 => ?_
  rw [flat_set tk_len (by omega) (x' := { t with st := 3, on := on }) rfl _ _ (by simp [g4] : (w.tasks.set j { t with st := 3 })[j]? = some { t with st := 3 })] at W5
  refine w_ik_wr O5 W5 1 rfl rfl (by rw [flat_len tk_len]; simp) g4 (by omega) rfl fun h6 ρ6 O6 W6 => ?_
  rw [flat_set tk_len (by omega) (x' := { t with st := 3, on := on, since := m.clock + 1 }) rfl _ _ (by simp [g4] : ((w.tasks.set j { t with st := 3 }).set j { t with st := 3, on := on })[j]? = some { t with st := 3, on := on })] at W6
  have R6 : Pcs ρ2 ρ6 N2.ns (N2.rs ⟨upL w.tasks key fun t => { t with st := 3, on := on, since := m.clock + 1 }, w.slots, w.queue, m.clock + 1⟩) := W6.eq (by
    simp [RN.rs, RN.head, upL_len, ← upL_set hndw g2 g3 (f := fun t => { t with st := 3, on := on, since := m.clock + 1 }), List.set_set])
  refine leave_ok (N := N2) O6 R6.self (by simp only [hss, big]; omega) fun h7 ρ7 O7 R7 F7 => ?_
  refine circle_ok (N := N2) (by simp only [upL_len]; omega) O7 R7 fun h8 μ8 ρ8 co oa oc O8 W8 hco => ?_
  simp only [oB_some, bC_true, bC_false, vInt_int, vBool_bool, vStr_string, vPtr_pointer, vSl_slice, vMap_map, vFun_func, vAgg_agg, vTup_tuple, lC_cons, lN_nil, aP_some, shO_none, shO_some, Option.isNone_none, Option.isNone_some, Bool.not_true, Bool.not_false]
  have FF : Fra N.ns ρ ρ7 := (((W1.tail hc1).fra.trans F2).trans (a2 ▸ R6.fra)).trans (a2 ▸ F7)
  refine hq h8 μ8 ρ8 N2 co oa oc O8 ⟨a2 ▸ W8.nodup, by have := W8.len; rw [a2] at this; rw [this, hss], ?_, ?_⟩ ?_ a2 b2
  · have := W8.at_; rw [a2] at this; simp only [hss] at this; exact this
  · intro c r hn hc
    have hnn : c ∉ N.ns := fun x => hn (List.mem_cons_of_mem _ x)
    exact W8.fra c r (by rw [a2]; exact hn) (FF c r hnn hc)
  · cases hx : ρ co with
    | none => rfl
    | some r =>
      have hnn : co ∉ N.ns := fun x => (List.nodup_cons.1 (a2 ▸ W8.nodup)).1 x
      rw [FF co r hnn hx] at hco; cases hco

theorem scan_loop {key : Str} {N : RN} {m : M} (hl : m.tasks.length ≤ 10000) : ∀ (d i : Nat) {h : AW} {μ : Paint} {ρ : Store} {f : Option Nat}, m.tasks.length - i = d → i ≤ m.tasks.length → (∀ j, f = some j → j < m.tasks.length) → Own h μ ρ → RefAt ρ N m →
    (∀ h' μ' ρ', Own h' μ' ρ' → RefAt ρ' N m → Fra N.ns ρ ρ' → unitAt P f_p_brickyardref20_Sched_Done 8 [0, 1, 6, 7] [.pointer (some ⟨N.r, 0, none⟩), .string key, .int .i64 (fI (scan m.tasks key d i f)), .int .i64 (m.tasks.length : Int)] h' Q) →
    unitAt P f_p_brickyardref20_Sched_Done 8 [0, 1, 6, 7] [.pointer (some ⟨N.r, 0, none⟩), .string key, .int .i64 (fI f), .int .i64 (i : Int)] h Q := by
  intro d
  induction d with
  | zero =>
    intro i h μ ρ f hd hi hf O R hq
    have : i = m.tasks.length := by omega
    subst this
    exact hq _ _ _ O R Fra.refl
  | succ d ih =>
    intro i h μ ρ f hd hi hf O R hq
    have hlt : i < m.tasks.length := by omega
    refine r_p_brickyardref20_Sched_Done_8 ?_
    simp only [oB_some, bC_true, bC_false, vInt_int, vBool_bool, vStr_string, vPtr_pointer, vSl_slice, vMap_map, vFun_func, vAgg_agg, vTup_tuple, lC_cons, lN_nil, aP_some, shO_none, shO_some, Option.isNone_none, Option.isNone_some, Bool.not_true, Bool.not_false]
    refine w_rd O R 0 (j := 0) rfl rfl ?_
    simp only [oB_some, bC_true, bC_false, vInt_int, vBool_bool, vStr_string, vPtr_pointer, vSl_slice, vMap_map, vFun_func, vAgg_agg, vTup_tuple, lC_cons, lN_nil, aP_some, shO_none, shO_some, Option.isNone_none, Option.isNone_some, Bool.not_true, Bool.not_false]
    rw [ltI hlt]
    simp only [oB_some, bC_true, bC_false, vInt_int, vBool_bool, vStr_string, vPtr_pointer, vSl_slice, vMap_map, vFun_func, vAgg_agg, vTup_tuple, lC_cons, lN_nil, aP_some, shO_none, shO_some, Option.isNone_none, Option.isNone_some, Bool.not_true, Bool.not_false]
    refine w_rd O R 0 (j := 0) rfl rfl ?_
    simp only [oB_some, bC_true, bC_false, vInt_int, vBool_bool, vStr_string, vPtr_pointer, vSl_slice, vMap_map, vFun_func, vAgg_agg, vTup_tuple, lC_cons, lN_nil, aP_some, shO_none, shO_some, Option.isNone_none, Option.isNone_some, Bool.not_true, Bool.not_false]
    refine tk_ix (N := N) O R rfl rfl (List.getElem?_eq_getElem hlt) fun i' off hr => ?_
    have h0 := hr 0 (by omega)
    simp only [Nat.add_zero] at h0
    rw [h0]
    simp only [tkCells, List.getElem?_cons_zero, oB_some, bC_true, bC_false, vInt_int, vBool_bool, vStr_string, vPtr_pointer, vSl_slice, vMap_map, vFun_func, vAgg_agg, vTup_tuple, lC_cons, lN_nil, aP_some, shO_none, shO_some, Option.isNone_none, Option.isNone_some, Bool.not_true, Bool.not_false]
    rw [hr 1 (by omega)]
    simp only [tkCells, List.getElem?_cons_zero, List.getElem?_cons_succ, oB_some, bC_true, bC_false, vInt_int, vBool_bool, vStr_string, vPtr_pointer, vSl_slice, vMap_map, vFun_func, vAgg_agg, vTup_tuple, lC_cons, lN_nil, aP_some, shO_none, shO_some, Option.isNone_none, Option.isNone_some, Bool.not_true, Bool.not_false]
    rw [show off + i * 5 + 1 + 1 = off + i * 5 + 2 from rfl, hr 2 (by omega)]
    simp only [tkCells, List.getElem?_cons_zero, List.getElem?_cons_succ, oB_some, bC_true, bC_false, vInt_int, vBool_bool, vStr_string, vPtr_pointer, vSl_slice, vMap_map, vFun_func, vAgg_agg, vTup_tuple, lC_cons, lN_nil, aP_some, shO_none, shO_some, Option.isNone_none, Option.isNone_some, Bool.not_true, Bool.not_false]
    rw [show off + i * 5 + 2 + 1 = off + i * 5 + 3 from rfl, hr 3 (by omega)]
    simp only [tkCells, List.getElem?_cons_zero, List.getElem?_cons_succ, oB_some, bC_true, bC_false, vInt_int, vBool_bool, vStr_string, vPtr_pointer, vSl_slice, vMap_map, vFun_func, vAgg_agg, vTup_tuple, lC_cons, lN_nil, aP_some, shO_none, shO_some, Option.isNone_none, Option.isNone_some, Bool.not_true, Bool.not_false]
    rw [show off + i * 5 + 3 + 1 = off + i * 5 + 4 from rfl, hr 4 (by omega)]
    simp only [tkCells, List.getElem?_cons_zero, List.getElem?_cons_succ, oB_some, bC_true, bC_false, vInt_int, vBool_bool, vStr_string, vPtr_pointer, vSl_slice, vMap_map, vFun_func, vAgg_agg, vTup_tuple, lC_cons, lN_nil, aP_some, shO_none, shO_some, Option.isNone_none, Option.isNone_some, Bool.not_true, Bool.not_false]
    obtain ⟨μ1, ρ1, c1, O1, W1, hc1⟩ := w_new O R [.string e0, .int .i64 0, .string e0, .int .i64 0, .int .i64 0]
    refine w_wrL O1 W1 0 rfl (by simp) rfl fun h2 ρ2 O2 W2 => ?_
    refine w_rd O2 W2 0 (j := 1) rfl rfl ?_
    simp only [oB_some, bC_true, bC_false, vInt_int, vBool_bool, vStr_string, vPtr_pointer, vSl_slice, vMap_map, vFun_func, vAgg_agg, vTup_tuple, lC_cons, lN_nil, aP_some, shO_none, shO_some, Option.isNone_none, Option.isNone_some, Bool.not_true, Bool.not_false]
    rw [wrapS (by omega)]
    have hg : m.tasks[i]? = some m.tasks[i] := List.getElem?_eq_getElem hlt
    have hsc : scan m.tasks key (d + 1) i f = if m.tasks[i].st = 3 ∧ m.tasks[i].on = key ∧ Sch.ahead m.tasks f m.tasks[i] = true then scan m.tasks key d (i + 1) (some i) else scan m.tasks key d (i + 1) f := by
      rw [scan, hg]
    have W2' := W2.tail hc1
    have R2 : RefAt ρ2 N m := W2'.self
    have no : ¬ (m.tasks[i].st = 3 ∧ m.tasks[i].on = key ∧ Sch.ahead m.tasks f m.tasks[i] = true) → unitAt P f_p_brickyardref20_Sched_Done 8 [0, 1, 6, 7] [.pointer (some ⟨N.r, 0, none⟩), .string key, .int .i64 (fI f), .int .i64 ((i + 1 : Nat) : Int)] h2 Q := by
      intro hx
      rw [hsc, if_neg hx] at hq
      exact ih (i + 1) (by omega) (by omega) hf O2 R2 fun h' μ' ρ' O' R' F => hq h' μ' ρ' O' R' (W2'.fra.trans F)
    have yes : (m.tasks[i].st = 3 ∧ m.tasks[i].on = key ∧ Sch.ahead m.tasks f m.tasks[i] = true) → unitAt P f_p_brickyardref20_Sched_Done 8 [0, 1, 6, 7] [.pointer (some ⟨N.r, 0, none⟩), .string key, .int .i64 (i : Int), .int .i64 ((i + 1 : Nat) : Int)] h2 Q := by
      intro hx
      rw [hsc, if_pos hx] at hq
      exact ih (i + 1) (f := some i) (by omega) (by omega) (fun j hj => by cases hj; exact hlt) O2 R2 fun h' μ' ρ' O' R' F => hq h' μ' ρ' O' R' (W2'.fra.trans F)
    refine bC_iff (fun e3 => ?_) (fun e3 => no fun x => ?_)
    · have e3 : m.tasks[i].st = 3 := by simp at e3; omega
      refine w_rd O2 W2 0 (j := 2) rfl rfl ?_
      simp only [oB_some, bC_true, bC_false, vInt_int, vBool_bool, vStr_string, vPtr_pointer, vSl_slice, vMap_map, vFun_func, vAgg_agg, vTup_tuple, lC_cons, lN_nil, aP_some, shO_none, shO_some, Option.isNone_none, Option.isNone_some, Bool.not_true, Bool.not_false]
      refine bC_iff (fun eo => ?_) (fun eo => no fun x => bEq_false.1 eo x.2.1)
      have eo : m.tasks[i].on = key := bEq_iff.1 eo
      cases f with
      | none =>
        simp only [fI, show decide ((-1 : Int) < 0) = true from rfl, oB_some, bC_true, bC_false, vInt_int, vBool_bool, vStr_string, vPtr_pointer, vSl_slice, vMap_map, vFun_func, vAgg_agg, vTup_tuple, lC_cons, lN_nil, aP_some, shO_none, shO_some, Option.isNone_none, Option.isNone_some, Bool.not_true, Bool.not_false]
        exact yes ⟨e3, eo, rfl⟩
      | some j =>
        have hj := hf j rfl
        simp only [fI, show decide ((j : Int) < 0) = false from decide_eq_false (by omega), oB_some, bC_true, bC_false, vInt_int, vBool_bool, vStr_string, vPtr_pointer, vSl_slice, vMap_map, vFun_func, vAgg_agg, vTup_tuple, lC_cons, lN_nil, aP_some, shO_none, shO_some, Option.isNone_none, Option.isNone_some, Bool.not_true, Bool.not_false]
        refine w_rd O2 W2 0 (j := 3) rfl rfl ?_
        simp only [oB_some, bC_true, bC_false, vInt_int, vBool_bool, vStr_string, vPtr_pointer, vSl_slice, vMap_map, vFun_func, vAgg_agg, vTup_tuple, lC_cons, lN_nil, aP_some, shO_none, shO_some, Option.isNone_none, Option.isNone_some, Bool.not_true, Bool.not_false]
        refine w_rd O2 W2 1 (j := 0) rfl rfl ?_
        simp only [oB_some, bC_true, bC_false, vInt_int, vBool_bool, vStr_string, vPtr_pointer, vSl_slice, vMap_map, vFun_func, vAgg_agg, vTup_tuple, lC_cons, lN_nil, aP_some, shO_none, shO_some, Option.isNone_none, Option.isNone_some, Bool.not_true, Bool.not_false]
        refine tk_ix (N := N) O2 R2 rfl rfl (List.getElem?_eq_getElem hj) fun i' off hr => ?_
        rw [hr 3 (by omega)]
        simp only [tkCells, List.getElem?_cons_zero, List.getElem?_cons_succ, oB_some, bC_true, bC_false, vInt_int, vBool_bool, vStr_string, vPtr_pointer, vSl_slice, vMap_map, vFun_func, vAgg_agg, vTup_tuple, lC_cons, lN_nil, aP_some, shO_none, shO_some, Option.isNone_none, Option.isNone_some, Bool.not_true, Bool.not_false]
        have ha : Sch.ahead m.tasks (some j) m.tasks[i] = decide (m.tasks[i].since < m.tasks[j].since) := by simp [Sch.ahead, hj]
        refine bC_iff (fun e => ?_) (fun e => ?_)
        · exact yes ⟨e3, eo, by rw [ha]; simp at e ⊢; omega⟩
        · exact no fun x => by rw [ha] at x; simp at e x; omega
    · simp at e3; omega

theorem upL_same_len {l : List Tk} {j : Nat} {t : Tk} : (l.set j t).length = l.length := by simp
theorem release_loop {key : Str} : ∀ (n : Nat) {h : AW} {μ : Paint} {ρ : Store} {N : RN} {m : M}, waitN m.tasks key < n → m.tasks.length ≤ 10000 → m.queue.length + n ≤ 100000 → Own h μ ρ → RefAt ρ N m →
    (RefTo Q ρ N (.int .i64 0) { m with tasks := (release key n m.tasks m.queue).1, queue := (release key n m.tasks m.queue).2 }) →
    unitAt P f_p_brickyardref20_Sched_Done 6 [0, 1] [.pointer (some ⟨N.r, 0, none⟩), .string key] h Q := by
  intro n
  induction n with
  | zero => intro h μ ρ N m hn; omega
  | succ n ih =>
    intro h μ ρ N m hn hl hql O R hq
    refine r_p_brickyardref20_Sched_Done_6 ?_
    refine scan_loop (f := none) hl _ 0 rfl (by omega) (fun j hj => by cases hj) O R fun h1 μ1 ρ1 O1 R1 F1 => ?_
    refine r_p_brickyardref20_Sched_Done_8 ?_
    simp only [oB_some, bC_true, bC_false, vInt_int, vBool_bool, vStr_string, vPtr_pointer, vSl_slice, vMap_map, vFun_func, vAgg_agg, vTup_tuple, lC_cons, lN_nil, aP_some, shO_none, shO_some, Option.isNone_none, Option.isNone_some, Bool.not_true, Bool.not_false]
    refine w_rd O1 R1 0 (j := 0) rfl rfl ?_
    simp only [oB_some, bC_true, bC_false, vInt_int, vBool_bool, vStr_string, vPtr_pointer, vSl_slice, vMap_map, vFun_func, vAgg_agg, vTup_tuple, lC_cons, lN_nil, aP_some, shO_none, shO_some, Option.isNone_none, Option.isNone_some, Bool.not_true, Bool.not_false]
    rw [geI (Nat.le_refl _)]
    simp only [oB_some, bC_true, bC_false, vInt_int, vBool_bool, vStr_string, vPtr_pointer, vSl_slice, vMap_map, vFun_func, vAgg_agg, vTup_tuple, lC_cons, lN_nil, aP_some, shO_none, shO_some, Option.isNone_none, Option.isNone_some, Bool.not_true, Bool.not_false]
    rw [release] at hq
    rw [show m.tasks.length - 0 = m.tasks.length from rfl]
    cases hs : scan m.tasks key m.tasks.length 0 none with
    | none =>
      rw [hs] at hq
      simp only [fI, show decide ((-1 : Int) < 0) = true from rfl, oB_some, bC_true, bC_false, vInt_int, vBool_bool, vStr_string, vPtr_pointer, vSl_slice, vMap_map, vFun_func, vAgg_agg, vTup_tuple, lC_cons, lN_nil, aP_some, shO_none, shO_some, Option.isNone_none, Option.isNone_some, Bool.not_true, Bool.not_false]
      exact hq _ _ _ N O1 R1 rfl rfl F1
    | some j =>
      obtain ⟨t, ht, h3, hon⟩ := scan_ok m.tasks.length 0 none (by omega) (fun j hj => by cases hj) j hs
      have hj : j < m.tasks.length := (List.getElem?_eq_some_iff.1 ht).1
      rw [hs] at hq
      simp only [ht] at hq
      simp only [fI, show decide ((j : Int) < 0) = false from decide_eq_false (by omega), oB_some, bC_true, bC_false, vInt_int, vBool_bool, vStr_string, vPtr_pointer, vSl_slice, vMap_map, vFun_func, vAgg_agg, vTup_tuple, lC_cons, lN_nil, aP_some, shO_none, shO_some, Option.isNone_none, Option.isNone_some, Bool.not_true, Bool.not_false]
      refine w_rd O1 R1 0 (j := 0) rfl rfl ?_
      simp only [oB_some, bC_true, bC_false, vInt_int, vBool_bool, vStr_string, vPtr_pointer, vSl_slice, vMap_map, vFun_func, vAgg_agg, vTup_tuple, lC_cons, lN_nil, aP_some, shO_none, shO_some, Option.isNone_none, Option.isNone_some, Bool.not_true, Bool.not_false]
      refine w_ik_wr O1 R1 1 rfl rfl (flat_len tk_len _) hj (by omega) rfl fun h2 ρ2 O2 W2 => ?_
      rw [flat_set tk_len (by omega) (x' := { t with st := 1 }) rfl _ _ ht] at W2
      have W2 := upd_tasks W2 (by simp)
      refine w_rd O2 W2 0 (j := 2) rfl rfl ?_
      simp only [oB_some, bC_true, bC_false, vInt_int, vBool_bool, vStr_string, vPtr_pointer, vSl_slice, vMap_map, vFun_func, vAgg_agg, vTup_tuple, lC_cons, lN_nil, aP_some, shO_none, shO_some, Option.isNone_none, Option.isNone_some, Bool.not_true, Bool.not_false]
      refine w_rd O2 W2 0 (j := 0) rfl rfl ?_
      simp only [oB_some, bC_true, bC_false, vInt_int, vBool_bool, vStr_string, vPtr_pointer, vSl_slice, vMap_map, vFun_func, vAgg_agg, vTup_tuple, lC_cons, lN_nil, aP_some, shO_none, shO_some, Option.isNone_none, Option.isNone_some, Bool.not_true, Bool.not_false]
      refine tk_ix (N := N) (t := { t with st := 1 }) O2 W2.self rfl rfl (by simp [hj]) fun i' off hr => ?_
      have h0 := hr 0 (by omega)
      simp only [Nat.add_zero] at h0
      rw [h0]
      simp only [tkCells, List.getElem?_cons_zero, oB_some, bC_true, bC_false, vInt_int, vBool_bool, vStr_string, vPtr_pointer, vSl_slice, vMap_map, vFun_func, vAgg_agg, vTup_tuple, lC_cons, lN_nil, aP_some, shO_none, shO_some, Option.isNone_none, Option.isNone_some, Bool.not_true, Bool.not_false]
      obtain ⟨μ4, ρ4, c4, O4, W4, hc4⟩ := w_block O2 W2 (strs [t.key]) (n := 1) (sz := 1) rfl rfl
      refine w_app (P := P) O4 W4 4 ti_ty_sl_string ti_ty_string (by decide) rfl (by simp) (w_sl O4 W4 0 rfl) rfl rfl (by omega) (by omega) fun qa qc h5 μ5 ρ5 O5 W5 => ?_
      simp only [oB_some, bC_true, bC_false, vInt_int, vBool_bool, vStr_string, vPtr_pointer, vSl_slice, vMap_map, vFun_func, vAgg_agg, vTup_tuple, lC_cons, lN_nil, aP_some, shO_none, shO_some, Option.isNone_none, Option.isNone_some, Bool.not_true, Bool.not_false]
      refine w_wr O5 W5 1 (j := 2) rfl (by simp [RN.head]) rfl fun h6 ρ6 O6 W6 => ?_
      refine w_rd O4 W4 1 (j := 2) rfl rfl ?_
      simp only [oB_some, bC_true, bC_false, vInt_int, vBool_bool, vStr_string, vPtr_pointer, vSl_slice, vMap_map, vFun_func, vAgg_agg, vTup_tuple, lC_cons, lN_nil, aP_some, shO_none, shO_some, Option.isNone_none, Option.isNone_some, Bool.not_true, Bool.not_false]
      refine ⟨trivial, ?_⟩
      have W6' := (W6.tail hc4).eq (rs' := RN.rs ⟨N.ns, N.r, N.ta, N.tc, N.sa, N.sc, qa, qc⟩ { m with tasks := m.tasks.set j { t with st := 1 }, queue := m.queue ++ [t.key] }) (by simp [RN.rs, RN.head])
      have hw := waitN_set ht h3 hon
      refine ih (N := ⟨N.ns, N.r, N.ta, N.tc, N.sa, N.sc, qa, qc⟩) (m := { m with tasks := m.tasks.set j { t with st := 1 }, queue := m.queue ++ [t.key] }) (by simp only; omega) (by simpa using hl) (by simp; omega) O6 W6'.self ?_
      intro h' μ' ρ' N' O' R' a b F
      exact hq h' μ' ρ' N' O' R' a b ((F1.trans W6'.fra).trans F)

theorem done_ok {key : Str} {N : RN} {m : M} (O : Own h μ ρ) (R : RefAt ρ N m) (hl : m.tasks.length ≤ 1000) (hql : m.queue.length ≤ 1000) (hsl : m.slots.length ≤ 1000) (hnd : (keys m.tasks).Nodup) (hq : RefTo Q ρ N (.int .i64 ((doneR m key).1 : Nat)) (doneR m key).2) :
    EvQ P f_p_brickyardref20_Sched_Done [.pointer (some ⟨N.r, 0, none⟩), .string key] h Q := by
  refine r_p_brickyardref20_Sched_Done ?_
  have hbig : m.tasks.length < big := by simp [big]; omega
  refine state_ok O R hbig ?_
  simp only [oB_some, bC_true, bC_false, vInt_int, vBool_bool, vStr_string, vPtr_pointer, vSl_slice, vMap_map, vFun_func, vAgg_agg, vTup_tuple, lC_cons, lN_nil, aP_some, shO_none, shO_some, Option.isNone_none, Option.isNone_some, Bool.not_true, Bool.not_false]
  have go : (stOf m.tasks key = 2 ∨ stOf m.tasks key = 3) → oB (h.rd N.r 0) (fun v8 => vSl v8 fun p9 m10 m11 => EvQ P f_p_brickyardref20_Sched_find [Value.pointer (some ⟨N.r, 0, none⟩), Value.string key] h fun v12 h13 => vInt IntKind.i64 v12 fun n14 => aP p9 fun m15 m16 => oB (natIdx n14 m10) fun m17 => oB (AW.wr h13 m15 (m16 + m17 * 5 + 1) (Value.int IntKind.i64 4)) fun h18
     => oB (h13.rd N.r 0) fun v19 => vSl v19 fun p20 m21 m22 => Value.slice p20 m21 m22 = Value.slice p9 m10 m11 ∧ EvQ P f_p_brickyardref20_Sched_leave [Value.pointer (some ⟨N.r, 0, none⟩), Value.string key] h18 fun v23 h24 =>
     unitAt P f_p_brickyardref20_Sched_Done 6 [0, 1] [Value.pointer (some ⟨N.r, 0, none⟩), Value.string key] h24 Q) := by
    intro hst
    rcases tix_cases m.tasks key with ⟨_, g2, _⟩ | ⟨j, t, g1, g2, _, g4, g5, _⟩
    · unfold stOf at hst; rw [g2] at hst; simp at hst
    refine w_rd O R 0 (j := 0) rfl rfl ?_
    simp only [oB_some, bC_true, bC_false, vInt_int, vBool_bool, vStr_string, vPtr_pointer, vSl_slice, vMap_map, vFun_func, vAgg_agg, vTup_tuple, lC_cons, lN_nil, aP_some, shO_none, shO_some, Option.isNone_none, Option.isNone_some, Bool.not_true, Bool.not_false]
    refine find_ok O R hbig ?_
    unfold tixI; rw [g1]
    simp only [oB_some, bC_true, bC_false, vInt_int, vBool_bool, vStr_string, vPtr_pointer, vSl_slice, vMap_map, vFun_func, vAgg_agg, vTup_tuple, lC_cons, lN_nil, aP_some, shO_none, shO_some, Option.isNone_none, Option.isNone_some, Bool.not_true, Bool.not_false]
    refine w_ik_wr O R 1 rfl rfl (flat_len tk_len _) g5 (by omega) rfl fun h2 ρ2 O2 W2 => ?_
    rw [flat_set tk_len (by omega) (x' := { t with st := 4 }) rfl _ _ g2] at W2
    have W2 := upd_tasks W2 (by simp)
    rw [upL_set hnd g2 g4 (f := fun t => { t with st := 4 })] at W2
    refine w_rd O R 0 (j := 0) rfl rfl ?_
    simp only [oB_some, bC_true, bC_false, vInt_int, vBool_bool, vStr_string, vPtr_pointer, vSl_slice, vMap_map, vFun_func, vAgg_agg, vTup_tuple, lC_cons, lN_nil, aP_some, shO_none, shO_some, Option.isNone_none, Option.isNone_some, Bool.not_true, Bool.not_false]
    refine ⟨trivial, ?_⟩
    refine leave_ok (N := N) O2 W2.self (by simp only [big]; omega) fun h3 ρ3 O3 R3 F3 => ?_
    unfold doneR at hq
    rw [if_pos hst] at hq
    have hwn : waitN (upL m.tasks key fun t => { t with st := 4 }) key ≤ (upL m.tasks key fun t => { t with st := 4 }).length := List.countP_le_length
    refine release_loop (N := N) ((upL m.tasks key fun t => { t with st := 4 }).length + 1) (by simp only; omega) (by simp only [upL_len]; omega) (by simp only [upL_len]; omega) O3 R3 ?_
    exact fun h' μ' ρ' N' O' R' a b F => hq h' μ' ρ' N' O' R' a b ((W2.fra.trans F3).trans F)
  refine bC_iff (fun e2 => ?_) (fun e2 => ?_)
  · refine bC_iff (fun e3 => ?_) (fun e3 => ?_)
    · have : ¬ (stOf m.tasks key = 2 ∨ stOf m.tasks key = 3) := by simp at e2 e3; omega
      unfold doneR at hq
      rw [if_neg this] at hq
      exact hq _ _ _ N O R rfl rfl Fra.refl
    · exact go (by simp at e3; omega)
  · exact go (by simp at e2; omega)
end Go.Proofs.Ytgdkekdedgkglaa
end

section
/- SchedPlays: what it comes to. -/
namespace Go.Proofs.Ytgdkekdedgkglaa
open Go.Abs Go.Abs.Sch
set_option maxRecDepth 100000
attribute [local irreducible] unitAt EvQ
variable {h : AW} {μ : Paint} {ρ : Store} {Q : Value → AW → Prop}

theorem ref_new_ok {n : Int} (O : Own h μ ρ) (hq : ∀ h' μ' ρ' (N : RN), Own h' μ' ρ' → RefAt ρ' N ⟨[], List.replicate (slotsOf n) e0, [], 0⟩ → Fra [] ρ ρ' → (∀ c, c ∈ N.ns → ρ c = none) → Q (.pointer (some ⟨N.r, 0, none⟩)) h') :
    EvQ P f_brickyardref20_New [.int .i64 n] h Q := by
  refine r_brickyardref20_New ?_
  rw [slotsOf_eq]
  have hr := slotsOf_range n
  refine w_make (P := P) O p0 ti_ty_sl_string ti_ty_string (slotsOf n) rfl ?_ (by omega) (by omega) fun h2 μ2 ρ2 cs sa O2 W2 hcs => ?_
  · show allOne (rep [.string _] _) = true
    rw [rep_one]; exact allOne_of fun v hv => by rw [(List.mem_replicate.1 hv).2]; rfl
  simp only [oB_some, bC_true, bC_false, vInt_int, vBool_bool, vStr_string, vPtr_pointer, vSl_slice, vMap_map, vFun_func, vAgg_agg, vTup_tuple, lC_cons, lN_nil, aP_some, shO_none, shO_some, Option.isNone_none, Option.isNone_some, Bool.not_true, Bool.not_false]
  obtain ⟨ρ3, ct, O3, W3, hct⟩ := w_nil O2 W2 5
  obtain ⟨ρ4, cq, O4, W4, hcq⟩ := w_nil O3 W3 1
  obtain ⟨μ5, ρ5, c0, O5, W5, hc0⟩ := w_new O4 W4 [.slice none 0 0, .slice sa (slotsOf n) (slotsOf n), .slice none 0 0, .int .i64 0]
  let N : RN := ⟨[c0, ct, cs, cq], h2.next, none, 0, sa, slotsOf n, none, 0⟩
  have hnd := W5.nodup
  have a0 := W5.at_ 0 _ _ rfl rfl
  have a1 := W5.at_ 1 _ _ rfl rfl
  have a2 := W5.at_ 2 _ _ rfl rfl
  have a3 := W5.at_ 3 _ _ rfl rfl
  refine hq _ _ _ N O5 ⟨?_, rfl, fun i c r hc hr => ?_, Fra.refl⟩ ?_ ?_
  · show [c0, ct, cs, cq].Nodup
    simp only [List.nodup_cons, List.mem_cons, List.not_mem_nil, or_false, not_or, not_false_eq_true, true_and, and_true, List.nodup_nil] at hnd ⊢
    omega
  · match i with
    | 0 => simp [N] at hc hr; subst hc hr; rw [a0]; simp [RN.head]
    | 1 => simp [N] at hc hr; subst hc hr; rw [a2]
    | 2 => simp [N] at hc hr; subst hc hr; rw [a3]; show some (Res.sl sa _ 1 (rep [.string e0] _)) = _; rw [rep_one]
    | 3 => simp [N] at hc hr; subst hc hr; rw [a1]
    | k + 4 => simp [N] at hc
  · intro c r _ hc
    refine W5.fra c r (fun hm => ?_) hc
    simp only [List.mem_cons, List.not_mem_nil, or_false] at hm
    rcases hm with rfl | rfl | rfl | rfl
    · rw [hc0] at hc; cases hc
    · rw [hcq] at hc; cases hc
    · rw [hct] at hc; cases hc
    · rw [hcs] at hc; cases hc
  · intro c hc
    simp only [N, List.mem_cons, List.not_mem_nil, or_false] at hc
    rcases hc with rfl | rfl | rfl | rfl
    · exact hc0
    · exact hct
    · exact hcs
    · exact hcq

/-- Both schedulers stand, apart; what else is known to stand. -/
structure Sc (h : AW) (μ : Paint) (ρ : Store) (I : IM) (i : MI) (N : RN) (m : M) : Prop where
  own : Own h μ ρ
  at_ : At ρ I i
  rf : RefAt ρ N m
  dj : ∀ c, c ∈ I.ns → c ∉ N.ns
/-- Pieces that neither of them is. -/
def Out (ρ : Store) (I : IM) (N : RN) (c : Nat) (r : Res) : Prop := ρ c = some r ∧ c ∉ I.ns ∧ c ∉ N.ns
theorem frn_app {ns ns' ms : List Nat} {ρ ρ' : Store} (F : FrN ns ρ ns' ρ') : FrN (ns ++ ms) ρ (ns' ++ ms) ρ' := by
  refine ⟨F.1.mono fun c hc => List.mem_append_left _ hc, fun c hc => ?_, fun c hc => ?_⟩
  · rcases List.mem_append.1 hc with x | x
    · exact (F.2.1 c x).imp (fun y => List.mem_append_left _ y) id
    · exact .inl (List.mem_append_right _ x)
  · rcases List.mem_append.1 hc with x | x
    · exact List.mem_append_left _ (F.2.2 c x)
    · exact List.mem_append_right _ x
section
variable {I : IM} {i : MI} {N : RN} {m : M}
theorem Sc.imp (S : Sc h μ ρ I i N m) {h' : AW} {μ' : Paint} {ρ' : Store} {I' : IM} {i' : MI} (O : Own h' μ' ρ') (A : At ρ' I' i') (F : FrN I.ns ρ I'.ns ρ') : Sc h' μ' ρ' I' i' N m := by
  obtain ⟨a, b⟩ := S.rf.keepN F fun c hc => S.dj c hc
  exact ⟨O, A, a, b⟩
theorem Sc.ref (S : Sc h μ ρ I i N m) {h' : AW} {μ' : Paint} {ρ' : Store} {N' : RN} {m' : M} (O : Own h' μ' ρ') (R : RefAt ρ' N' m') (e : N'.ns = N.ns) (F : Fra N.ns ρ ρ') : Sc h' μ' ρ' I i N' m' :=
  ⟨O, S.at_.keep (FrN.of F) fun c hc hi => S.dj c hi hc, R, fun c hc => by rw [e]; exact S.dj c hc⟩
theorem Sc.fresh (S : Sc h μ ρ I i N m) {h' : AW} {μ' : Paint} {ρ' : Store} (O : Own h' μ' ρ') (F : Fra [] ρ ρ') : Sc h' μ' ρ' I i N m :=
  ⟨O, S.at_.keep (FrN.of F) fun c hc => by simp at hc, S.rf.keep F fun c hc => by simp at hc, S.dj⟩
theorem Sc.none (S : Sc h μ ρ I i N m) {c : Nat} (hc : ρ c = none) : c ∉ I.ns ∧ c ∉ N.ns := ⟨S.at_.1.notin hc, S.rf.notin hc⟩
theorem Out.imp {c : Nat} {r : Res} (X : Out ρ I N c r) {ρ' : Store} {I' : IM} (F : FrN I.ns ρ I'.ns ρ') : Out ρ' I' N c r :=
  ⟨F.1 _ _ X.2.1 X.1, fun hm => (F.2.1 c hm).elim X.2.1 fun x => (by rw [X.1] at x; cases x), X.2.2⟩
theorem Out.ref {c : Nat} {r : Res} (X : Out ρ I N c r) {ρ' : Store} {N' : RN} (e : N'.ns = N.ns) (F : Fra N.ns ρ ρ') : Out ρ' I N' c r := ⟨F _ _ X.2.2 X.1, X.2.1, by rw [e]; exact X.2.2⟩
theorem Out.fresh {c : Nat} {r : Res} (X : Out ρ I N c r) {ρ' : Store} (F : Fra [] ρ ρ') : Out ρ' I N c r := ⟨F _ _ (by simp) X.1, X.2⟩
abbrev Rd2 (ρ : Store) (I : IM) (N : RN) (a : Option Addr) (l : List Value) : Prop := Rd ρ (I.ns ++ N.ns) a l
theorem rd_imp {a : Option Addr} {l : List Value} (X : Rd2 ρ I N a l) {ρ' : Store} {I' : IM} (F : FrN I.ns ρ I'.ns ρ') : Rd2 ρ' I' N a l := X.keepN (frn_app F)
theorem rd_ref {a : Option Addr} {l : List Value} (X : Rd2 ρ I N a l) {ρ' : Store} {N' : RN} (e : N'.ns = N.ns) (F : Fra N.ns ρ ρ') : Rd2 ρ' I N' a l := by
  unfold Rd2
  rw [e]
  exact X.keep (F.mono fun c hc => List.mem_append_right _ hc)
theorem rd_fresh {a : Option Addr} {l : List Value} (X : Rd2 ρ I N a l) {ρ' : Store} (F : Fra [] ρ ρ') : Rd2 ρ' I N a l := X.keep (F.mono fun c hc => by simp at hc)
/-- A new block, of strings. -/
theorem sc_block (S : Sc h μ ρ I i N m) (x : List Str) (n : Nat) (hn : x.length = n) : ∃ μ' ρ' c, Sc (h.addVar (strs x)) μ' ρ' I i N m ∧ Out ρ' I N c (.sl (some ⟨h.next, 0, none⟩) n 1 (strs x)) ∧ Fra [] ρ ρ' := by
  obtain ⟨μ2, ρ2, c2, O2, W2, hc2⟩ := w_block S.own (p0 (ρ := ρ)) (strs x) (n := n) (sz := 1) (by simp [hn]) (allOne_strs)
  have F : Fra [] ρ ρ2 := (W2.tail hc2).fra
  exact ⟨μ2, ρ2, c2, S.fresh O2 F, ⟨W2.at_ 0 _ _ rfl rfl, S.none hc2⟩, F⟩
end

/-- What the law's state is, in plain terms. -/
structure Pu (i : MI) (m : M) (j : Nat) : Prop where
  ok : IOk i
  sz : Sz i (64 * j)
  sim : ∃ σ, Sim m i σ
  sl : 0 < i.slots.length
  nt : i.tasks.length ≤ 2 * j
  ck : m.clock ≤ j
section
variable {I : IM} {i : MI} {N : RN} {m : M} {j : Nat}
theorem Pu.tl (U : Pu i m j) : m.tasks.length = i.tasks.length := by obtain ⟨σ, S⟩ := U.sim; rw [S.tasks]; simp
theorem Pu.ql (U : Pu i m j) : m.queue.length ≤ i.tasks.length := by obtain ⟨σ, S⟩ := U.sim; rw [S.queue]; exact U.ok.queue_le
theorem Pu.sle (U : Pu i m j) : m.slots = i.slots := by obtain ⟨σ, S⟩ := U.sim; exact S.slots
theorem Pu.nd (U : Pu i m j) : (keys m.tasks).Nodup := by obtain ⟨σ, S⟩ := U.sim; rw [S.tasks, keys_toT]; exact U.ok.nodup
theorem Pu.st (U : Pu i m j) (k : Str) : stOf m.tasks k = mst i.tasks k := by obtain ⟨σ, S⟩ := U.sim; rw [S.tasks, stOf_toT]
theorem Pu.starts (U : Pu i m j) (k : Str) : startsOf m.tasks k = mstarts i.tasks k := by obtain ⟨σ, S⟩ := U.sim; rw [S.tasks, startsOf_toT]
theorem Pu.any (U : Pu i m j) {s : Nat} (h0 : s ≠ 0) : (m.tasks.any fun t => t.st == s) = decide (0 < manyOf i.tasks s) := by obtain ⟨σ, S⟩ := U.sim; rw [S.tasks, any_many h0]
end

/-- Slots and queue are told, and may be turned by who asked. -/
theorem tells_mid {I : IM} {i : MI} {N : RN} {m : M} {j : Nat} (S : Sc h μ ρ I i N m) (U : Pu i m j) (hj : j ≤ 200) {f : AW → Prop} {g : Option Addr → Nat → Nat → AW → Prop} (hq : ∀ h' μ' ρ', Sc h' μ' ρ' I i N m → Fra [] ρ ρ' → f h') :
    EvQ P f_p_sched_Sched_Slots [.pointer (some ⟨I.p, 0, none⟩)] h fun v28 h29 => vSl v28 fun p30 m31 m32 => oB (AW.rd h29 N.r (0 + 1)) fun v35 => vSl v35 fun p36 m37 m38 => EvQ P f_slices_Equal_sl_string_string [.slice p30 m31 m32, .slice p36 m37 m38] h29 fun v39 h40 => vBool v39 fun b41 =>
      bC b41 (EvQ P f_p_sched_Sched_Queue [.pointer (some ⟨I.p, 0, none⟩)] h40 fun v42 h43 => vSl v42 fun p44 m45 m46 => oB (AW.rd h43 N.r (0 + 2)) fun v49 => vSl v49 fun p50 m51 m52 => EvQ P f_slices_Equal_sl_string_string [.slice p44 m45 m46, .slice p50 m51 m52] h43 fun v53 h54 => vBool v53 fun b55 =>
        oB (AW.rd h40 N.r (0 + 2)) fun v56 => vSl v56 fun p57 m58 m59 => Value.slice p57 m58 m59 = Value.slice p50 m51 m52 ∧ oP (clearB P h54 ⟨[ty_sl_string]⟩ [.slice p30 m31 m32]) fun _ h61 => bC b55 (f h61) (Q (.bool false) h61)) (g p30 m31 m32 h40) := by
  have hsl := U.sl
  have hsn := U.sz.ns
  have hql := U.ok.queue_le
  have hnt := U.nt
  refine a_slots S.own S.at_ U.sz fun h2 μ2 ρ2 co oa oc O2 W2 hco => ?_
  have F2 : Fra [] ρ ρ2 := (W2.tail hco).fra
  have S2 := S.fresh O2 F2
  have hx2 := W2.at_ 0 _ _ rfl rfl
  simp only [oB_some, bC_true, bC_false, vInt_int, vBool_bool, vStr_string, vPtr_pointer, vSl_slice, vMap_map, vFun_func, vAgg_agg, vTup_tuple, lC_cons, lN_nil, aP_some, shO_none, shO_some, Option.isNone_none, Option.isNone_some, Bool.not_true, Bool.not_false]
  refine w_rd O2 S2.rf 0 rfl rfl ?_
  simp only [oB_some, bC_true, bC_false, vInt_int, vBool_bool, vStr_string, vPtr_pointer, vSl_slice, vMap_map, vFun_func, vAgg_agg, vTup_tuple, lC_cons, lN_nil, aP_some, shO_none, shO_some, Option.isNone_none, Option.isNone_some, Bool.not_true, Bool.not_false]
  refine equal_ok (x := i.slots) (y := m.slots) (O2.sl hx2) (w_sl O2 S2.rf 2 rfl) (by omega) ?_
  rw [decide_eq_true U.sle.symm]
  simp only [oB_some, bC_true, bC_false, vInt_int, vBool_bool, vStr_string, vPtr_pointer, vSl_slice, vMap_map, vFun_func, vAgg_agg, vTup_tuple, lC_cons, lN_nil, aP_some, shO_none, shO_some, Option.isNone_none, Option.isNone_some, Bool.not_true, Bool.not_false]
  refine a_queue O2 S2.at_ U.ok U.sz fun h3 μ3 ρ3 cq qa qc O3 W3 hcq => ?_
  have F3 : Fra [] ρ2 ρ3 := (W3.tail hcq).fra
  have S3 := S2.fresh O3 F3
  simp only [oB_some, bC_true, bC_false, vInt_int, vBool_bool, vStr_string, vPtr_pointer, vSl_slice, vMap_map, vFun_func, vAgg_agg, vTup_tuple, lC_cons, lN_nil, aP_some, shO_none, shO_some, Option.isNone_none, Option.isNone_some, Bool.not_true, Bool.not_false]
  refine w_rd O3 S3.rf 0 rfl rfl ?_
  simp only [oB_some, bC_true, bC_false, vInt_int, vBool_bool, vStr_string, vPtr_pointer, vSl_slice, vMap_map, vFun_func, vAgg_agg, vTup_tuple, lC_cons, lN_nil, aP_some, shO_none, shO_some, Option.isNone_none, Option.isNone_some, Bool.not_true, Bool.not_false]
  obtain ⟨σ, Si⟩ := U.sim
  refine equal_ok (x := i.queue) (y := m.queue) (O3.sl (W3.at_ 0 _ _ rfl rfl)) (w_sl O3 S3.rf 3 rfl) (by omega) ?_
  rw [decide_eq_true Si.queue.symm]
  simp only [oB_some, bC_true, bC_false, vInt_int, vBool_bool, vStr_string, vPtr_pointer, vSl_slice, vMap_map, vFun_func, vAgg_agg, vTup_tuple, lC_cons, lN_nil, aP_some, shO_none, shO_some, Option.isNone_none, Option.isNone_some, Bool.not_true, Bool.not_false]
  refine w_rd O2 S2.rf 0 rfl rfl ?_
  simp only [oB_some, bC_true, bC_false, vInt_int, vBool_bool, vStr_string, vPtr_pointer, vSl_slice, vMap_map, vFun_func, vAgg_agg, vTup_tuple, lC_cons, lN_nil, aP_some, shO_none, shO_some, Option.isNone_none, Option.isNone_some, Bool.not_true, Bool.not_false]
  refine ⟨trivial, ?_⟩
  have hx3 := F3 _ _ (by simp) hx2
  have M : OM h3 μ3 co oa oc 1 (strs i.slots) := O3.holds _ _ hx3
  rcases M.mem with ⟨_, e⟩ | ⟨b, off, rfl, _⟩
  · have hcap := w_cap O2 W2 0 rfl
    simp at hcap; omega
  have W4 : Pcs ρ3 ρ3 [co] [.sl (some ⟨b, off, none⟩) oc 1 (strs i.slots)] := Pcs.init (by simp) rfl (by
    intro i c r h1 h2
    cases i with
    | zero => simp at h1 h2; subst h1 h2; exact hx3
    | succ i => simp at h1)
  have := w_clear (P := P) O3 W4 0 ti_ty_sl_string ti_ty_string (b := b) (off := off) (k := 0) (n := i.slots.length) (kk := oc) rfl rfl (by simp) (by show allOne (rep [.string _] _) = true; rw [rep_one]; exact allOne_of fun v hv => by rw [(List.mem_replicate.1 hv).2]; rfl) (f := fun _ h61 => f h61) fun h4 ρ4 O4 W5 => by
    have hno : co ∉ I.ns ∧ co ∉ N.ns := S.none hco
    refine hq _ _ _ ⟨O4, S3.at_.keep (FrN.of W5.fra) fun c hc => by simp at hc; rw [hc]; exact hno.1, S3.rf.keep W5.fra fun c hc => by simp at hc; rw [hc]; exact hno.2, S.dj⟩ fun c r _ hc => ?_
    refine W5.fra c r (fun hm => ?_) (F3 _ _ (by simp) (F2 _ _ (by simp) hc))
    simp at hm; rw [hm, hco] at hc; cases hc
  simpa using this

/-- What is asked of both, key by key. -/
theorem tells_loop {I : IM} {i : MI} {N : RN} {m : M} {j : Nat} (S : Sc h μ ρ I i N m) (U : Pu i m j) (hj : j ≤ 200) {ks : List Str} {a : Option Addr} {c : Nat} (X : Sl h a (strs ks)) (hk : ks.length ≤ 1000)
    (hq : ∀ h' μ' ρ', Sc h' μ' ρ' I i N m → Fra [] ρ ρ' → Q (.bool true) h') :
    ∀ (d n : Nat), ks.length - n = d → n ≤ ks.length → unitAt P f_brickyardlaw20_tells 2 [0, 1, 12, 13, 14] [.pointer (some ⟨I.p, 0, none⟩), .pointer (some ⟨N.r, 0, none⟩), .slice a ks.length c, .int .i64 (ks.length : Int), .int .i64 (n : Int)] h Q := by
  have h1 := U.tl
  have h2 := U.nt
  have hbig : m.tasks.length < big := by simp [big]; omega
  intro d
  induction d with
  | succ d ih =>
    intro n hd hn
    refine r_brickyardlaw20_tells_2 ?_
    rw [ltI (by omega)]
    simp only [oB_some, bC_true, bC_false, vInt_int, vBool_bool, vStr_string, vPtr_pointer, vSl_slice, vMap_map, vFun_func, vAgg_agg, vTup_tuple, lC_cons, lN_nil, aP_some, shO_none, shO_some, Option.isNone_none, Option.isNone_some, Bool.not_true, Bool.not_false]
    refine sat1 X rfl rfl (show n < ks.length by omega) ?_
    refine a_state S.own S.at_ ?_
    simp only [oB_some, bC_true, bC_false, vInt_int, vBool_bool, vStr_string, vPtr_pointer, vSl_slice, vMap_map, vFun_func, vAgg_agg, vTup_tuple, lC_cons, lN_nil, aP_some, shO_none, shO_some, Option.isNone_none, Option.isNone_some, Bool.not_true, Bool.not_false]
    refine state_ok S.own S.rf hbig ?_
    rw [U.st]
    simp only [oB_some, bC_true, bC_false, vInt_int, vBool_bool, vStr_string, vPtr_pointer, vSl_slice, vMap_map, vFun_func, vAgg_agg, vTup_tuple, lC_cons, lN_nil, aP_some, shO_none, shO_some, Option.isNone_none, Option.isNone_some, Bool.not_true, Bool.not_false, bne_self_eq_false]
    refine a_starts S.own S.at_ ?_
    simp only [oB_some, bC_true, bC_false, vInt_int, vBool_bool, vStr_string, vPtr_pointer, vSl_slice, vMap_map, vFun_func, vAgg_agg, vTup_tuple, lC_cons, lN_nil, aP_some, shO_none, shO_some, Option.isNone_none, Option.isNone_some, Bool.not_true, Bool.not_false]
    refine starts_ok S.own S.rf hbig ?_
    rw [U.starts]
    simp only [oB_some, bC_true, bC_false, vInt_int, vBool_bool, vStr_string, vPtr_pointer, vSl_slice, vMap_map, vFun_func, vAgg_agg, vTup_tuple, lC_cons, lN_nil, aP_some, shO_none, shO_some, Option.isNone_none, Option.isNone_some, Bool.not_true, Bool.not_false, bne_self_eq_false]
    rw [wrapS (by omega)]
    exact ih (n + 1) (by omega) (by omega)
  | zero =>
    intro n hd hn
    have : n = ks.length := by omega
    subst this
    refine r_brickyardlaw20_tells_2 ?_
    rw [show decide ((ks.length : Int) < (ks.length : Int)) = false from decide_eq_false (by omega)]
    simp only [oB_some, bC_true, bC_false, vInt_int, vBool_bool, vStr_string, vPtr_pointer, vSl_slice, vMap_map, vFun_func, vAgg_agg, vTup_tuple, lC_cons, lN_nil, aP_some, shO_none, shO_some, Option.isNone_none, Option.isNone_some, Bool.not_true, Bool.not_false]
    have hz := U.any (s := 1) (by omega)
    have hb := U.any (s := 2) (by omega)
    have hw := U.any (s := 3) (by omega)
    have n1 := many_nonneg (l := i.tasks) (s := 1) (by omega)
    have n2 := many_nonneg (l := i.tasks) (s := 2) (by omega)
    have n3 := many_nonneg (l := i.tasks) (s := 3) (by omega)
    have hsl := U.sl
    have hsn := U.sz.ns
    have hql := U.ok.queue_le
    -- the middle part, whatever comes first
    refine some_ok (s := 1) S.own S.rf hbig ?_
    rw [hz]
    simp only [oB_some, bC_true, bC_false, vInt_int, vBool_bool, vStr_string, vPtr_pointer, vSl_slice, vMap_map, vFun_func, vAgg_agg, vTup_tuple, lC_cons, lN_nil, aP_some, shO_none, shO_some, Option.isNone_none, Option.isNone_some, Bool.not_true, Bool.not_false]
    by_cases e1 : 0 < manyOf i.tasks 1
    · rw [decide_eq_true e1]
      simp only [oB_some, bC_true, bC_false, vInt_int, vBool_bool, vStr_string, vPtr_pointer, vSl_slice, vMap_map, vFun_func, vAgg_agg, vTup_tuple, lC_cons, lN_nil, aP_some, shO_none, shO_some, Option.isNone_none, Option.isNone_some, Bool.not_true, Bool.not_false]
      refine tells_mid S U hj fun h2 μ2 ρ2 S2 F2 => ?_
      refine a_stuck S2.own S2.at_ U.sz ?_
      have hlive : ilive i.tasks = true := decide_eq_true (by omega)
      rw [hlive]
      simp only [oB_some, bC_true, bC_false, vInt_int, vBool_bool, vStr_string, vPtr_pointer, vSl_slice, vMap_map, vFun_func, vAgg_agg, vTup_tuple, lC_cons, lN_nil, aP_some, shO_none, shO_some, Option.isNone_none, Option.isNone_some, Bool.not_true, Bool.not_false, Bool.false_and, beq_self_eq_true]
      refine a_over S2.own S2.at_ U.sz ?_
      rw [hlive]
      simp only [oB_some, bC_true, bC_false, vInt_int, vBool_bool, vStr_string, vPtr_pointer, vSl_slice, vMap_map, vFun_func, vAgg_agg, vTup_tuple, lC_cons, lN_nil, aP_some, shO_none, shO_some, Option.isNone_none, Option.isNone_some, Bool.not_true, Bool.not_false, Bool.false_and, beq_self_eq_true]
      exact hq _ _ _ S2 F2
    · rw [decide_eq_false e1]
      simp only [oB_some, bC_true, bC_false, vInt_int, vBool_bool, vStr_string, vPtr_pointer, vSl_slice, vMap_map, vFun_func, vAgg_agg, vTup_tuple, lC_cons, lN_nil, aP_some, shO_none, shO_some, Option.isNone_none, Option.isNone_some, Bool.not_true, Bool.not_false]
      refine some_ok (s := 2) S.own S.rf hbig ?_
      rw [hb]
      simp only [oB_some, bC_true, bC_false, vInt_int, vBool_bool, vStr_string, vPtr_pointer, vSl_slice, vMap_map, vFun_func, vAgg_agg, vTup_tuple, lC_cons, lN_nil, aP_some, shO_none, shO_some, Option.isNone_none, Option.isNone_some, Bool.not_true, Bool.not_false]
      refine tells_mid S U hj fun h2 μ2 ρ2 S2 F2 => ?_
      refine a_stuck S2.own S2.at_ U.sz ?_
      have hlive : ilive i.tasks = decide (0 < manyOf i.tasks 2) := by unfold ilive; congr 1; rw [show manyOf i.tasks 1 = 0 from by omega, Int.zero_add]
      rw [hlive]
      by_cases e2 : 0 < manyOf i.tasks 2
      · rw [decide_eq_true e2]
        simp only [oB_some, bC_true, bC_false, vInt_int, vBool_bool, vStr_string, vPtr_pointer, vSl_slice, vMap_map, vFun_func, vAgg_agg, vTup_tuple, lC_cons, lN_nil, aP_some, shO_none, shO_some, Option.isNone_none, Option.isNone_some, Bool.not_true, Bool.not_false, Bool.false_and, beq_self_eq_true]
        refine a_over S2.own S2.at_ U.sz ?_
        rw [hlive, decide_eq_true e2]
        simp only [oB_some, bC_true, bC_false, vInt_int, vBool_bool, vStr_string, vPtr_pointer, vSl_slice, vMap_map, vFun_func, vAgg_agg, vTup_tuple, lC_cons, lN_nil, aP_some, shO_none, shO_some, Option.isNone_none, Option.isNone_some, Bool.not_true, Bool.not_false, Bool.false_and, beq_self_eq_true]
        exact hq _ _ _ S2 F2
      · rw [decide_eq_false e2]
        simp only [oB_some, bC_true, bC_false, vInt_int, vBool_bool, vStr_string, vPtr_pointer, vSl_slice, vMap_map, vFun_func, vAgg_agg, vTup_tuple, lC_cons, lN_nil, aP_some, shO_none, shO_some, Option.isNone_none, Option.isNone_some, Bool.not_true, Bool.not_false, Bool.true_and]
        refine some_ok (s := 3) S2.own S2.rf hbig ?_
        rw [hw]
        simp only [oB_some, bC_true, bC_false, vInt_int, vBool_bool, vStr_string, vPtr_pointer, vSl_slice, vMap_map, vFun_func, vAgg_agg, vTup_tuple, lC_cons, lN_nil, aP_some, shO_none, shO_some, Option.isNone_none, Option.isNone_some, Bool.not_true, Bool.not_false, Bool.true_and, gt_iff_lt, beq_self_eq_true]
        refine a_over S2.own S2.at_ U.sz ?_
        rw [hlive, decide_eq_false e2]
        simp only [oB_some, bC_true, bC_false, vInt_int, vBool_bool, vStr_string, vPtr_pointer, vSl_slice, vMap_map, vFun_func, vAgg_agg, vTup_tuple, lC_cons, lN_nil, aP_some, shO_none, shO_some, Option.isNone_none, Option.isNone_some, Bool.not_true, Bool.not_false, Bool.true_and]
        refine some_ok (s := 3) S2.own S2.rf hbig ?_
        rw [hw]
        simp only [oB_some, bC_true, bC_false, vInt_int, vBool_bool, vStr_string, vPtr_pointer, vSl_slice, vMap_map, vFun_func, vAgg_agg, vTup_tuple, lC_cons, lN_nil, aP_some, shO_none, shO_some, Option.isNone_none, Option.isNone_some, Bool.not_true, Bool.not_false]
        have : (manyOf i.tasks 3 == 0) = !decide (0 < manyOf i.tasks 3) := by
          by_cases e3 : 0 < manyOf i.tasks 3
          · rw [decide_eq_true e3]; simp; omega
          · rw [decide_eq_false e3]; simp; omega
        rw [this, beq_self_eq_true]
        exact hq _ _ _ S2 F2
theorem tells_ok {I : IM} {i : MI} {N : RN} {m : M} {j : Nat} (S : Sc h μ ρ I i N m) (U : Pu i m j) (hj : j ≤ 200) {ks : List Str} {a : Option Addr} {c : Nat} (X : Sl h a (strs ks)) (hk : ks.length ≤ 1000)
    (hq : ∀ h' μ' ρ', Sc h' μ' ρ' I i N m → Fra [] ρ ρ' → Q (.bool true) h') : EvQ P f_brickyardlaw20_tells [.pointer (some ⟨I.p, 0, none⟩), .pointer (some ⟨N.r, 0, none⟩), .slice a ks.length c] h Q :=
  r_brickyardlaw20_tells (tells_loop S U hj X hk hq _ 0 rfl (Nat.zero_le _))
end Go.Proofs.Ytgdkekdedgkglaa
end
