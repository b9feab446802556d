/- A deterministic heap for the model, proved sound, and walks of the program over it: part 9. No condition. -/
import Derived.Test.YtgdkekdedgkglaaDoorAb1
import Derived.Test.YtgdkekdedgkglaaDoorAb2
import Derived.Test.YtgdkekdedgkglaaDoorAb3
import Derived.Test.YtgdkekdedgkglaaDoorAb4
import Derived.Test.YtgdkekdedgkglaaDoorAb6
import Derived.Test.YtgdkekdedgkglaaDoorCd2
import Derived.Test.YtgdkekdedgkglaaDoorAb5
import Derived.Test.YtgdkekdedgkglaaDoorCd1
set_option linter.unusedVariables false
set_option linter.unusedSimpArgs false
set_option linter.unusedSectionVars false
section
/- The scheduler: Done, New. -/
namespace Go.Proofs.YtgdkekdedgkglaaDoor
open Go.Abs Go.Abs.Sch
set_option maxRecDepth 100000
attribute [local irreducible] unitAt EvQ
variable {h : AW} {μ : Paint} {ρ : Store} {Q : Value → AW → Prop}

theorem i_done_ok {key : Str} {I : IM} (O : Own h μ ρ) (R : ImpAt ρ I) (K : DoneI I.m key) (hq : ImpTo Q ρ I (.int .i64 ((idone I.m key).1 : Nat)) (idone I.m key).2) :
    EvQ P f_p_sched_Sched_Done [.pointer (some ⟨I.p, 0, none⟩), .string key] h Q := by
  have hnt : I.t.length ≤ 1000 := by simpa [IM.m, IM.ts] using K.nt
  have hnq : I.queue.length ≤ 100000 := K.nq
  have hnd : (mkeys I.ts).Nodup := K.nodup
  refine r_p_sched_Sched_Done ?_
  simp only [oB_some, bC_true, bC_false, vInt_int, vBool_bool, vStr_string, vPtr_pointer, vSl_slice, vMap_map, vFun_func, vAgg_agg, vTup_tuple, vIfc_nil, vIfc_iface, lC_cons, lN_nil, aP_some, shO_none, shO_some, Option.isNone_none, Option.isNone_some, Bool.not_true, Bool.not_false]
  obtain ⟨μ1, ρ1, c, O1, W1, hc⟩ := w_new O R [.string key]
  generalize h.addVar [.string key] = h1 at *
  generalize h.next = b at *
  refine w_rd O1 W1 1 (j := 0) rfl rfl ?_
  simp only [oB_some, bC_true, bC_false, vInt_int, vBool_bool, vStr_string, vPtr_pointer, vSl_slice, vMap_map, vFun_func, vAgg_agg, vTup_tuple, vIfc_nil, vIfc_iface, lC_cons, lN_nil, aP_some, shO_none, shO_some, Option.isNone_none, Option.isNone_some, Bool.not_true, Bool.not_false]
  refine w_rd O1 W1 0 (j := 0) rfl rfl ?_
  simp only [oB_some, bC_true, bC_false, vInt_int, vBool_bool, vStr_string, vPtr_pointer, vSl_slice, vMap_map, vFun_func, vAgg_agg, vTup_tuple, vIfc_nil, vIfc_iface, lC_cons, lN_nil, aP_some, shO_none, shO_some, Option.isNone_none, Option.isNone_some, Bool.not_true, Bool.not_false]
  refine i_look (l := I.t) O1 W1 2 rfl key ?_
  refine w_rd O1 W1 0 (j := 0) rfl rfl ?_
  simp only [oB_some, bC_true, bC_false, vInt_int, vBool_bool, vStr_string, vPtr_pointer, vSl_slice, vMap_map, vFun_func, vAgg_agg, vTup_tuple, vIfc_nil, vIfc_iface, lC_cons, lN_nil, aP_some, shO_none, shO_some, Option.isNone_none, Option.isNone_some, Bool.not_true, Bool.not_false]
  refine i_state_ok (I := I) O1 W1.self.tail' ?_
  simp only [oB_some, bC_true, bC_false, vInt_int, vBool_bool, vStr_string, vPtr_pointer, vSl_slice, vMap_map, vFun_func, vAgg_agg, vTup_tuple, vIfc_nil, vIfc_iface, lC_cons, lN_nil, aP_some, shO_none, shO_some, Option.isNone_none, Option.isNone_some, Bool.not_true, Bool.not_false]
  cases e : iget I.t key with
  | none =>
    have hm : mget I.ts key = none := by unfold IM.ts; rw [iget_m, e]; rfl
    have hs : mst I.ts key = 0 := by unfold mst; rw [hm]
    have hd : idone I.m key = (4, I.m) := by unfold idone; rw [show mget I.m.tasks key = none from hm]
    rw [hd] at hq
    rw [hs]
    exact hq _ _ _ I O1 (W1.tail hc).self rfl rfl (FrN.of (W1.tail hc).fra)
  | some x =>
    have hm : mget I.ts key = some x.m := by unfold IM.ts; rw [iget_m, e]; rfl
    have hs : mst I.ts key = x.m.st := by unfold mst; rw [hm]
    rw [hs]
    obtain ⟨hxk, j, hxj, hjl⟩ := iget_at e
    have hxm : x.m ∈ I.ts := List.mem_map.2 ⟨x, List.mem_of_getElem? hxj, rfl⟩
    simp only [Option.map_some, oB_some, bC_true, bC_false, vInt_int, vBool_bool, vStr_string, vPtr_pointer, vSl_slice, vMap_map, vFun_func, vAgg_agg, vTup_tuple, vIfc_nil, vIfc_iface, lC_cons, lN_nil, aP_some, shO_none, shO_some, Option.isNone_none, Option.isNone_some, Bool.not_true, Bool.not_false]
    refine bC_iff (fun e2 => ?_) (fun e2 => ?_)
    · -- busy
      have e2 : x.m.st = 2 := by simp at e2; omega
      refine w_rd O1 W1 0 (j := 0) rfl rfl ?_
      simp only [oB_some, bC_true, bC_false, vInt_int, vBool_bool, vStr_string, vPtr_pointer, vSl_slice, vMap_map, vFun_func, vAgg_agg, vTup_tuple, vIfc_nil, vIfc_iface, lC_cons, lN_nil, aP_some, shO_none, shO_some, Option.isNone_none, Option.isNone_some, Bool.not_true, Bool.not_false]
      refine i_leave_ok (I := I) O1 W1.self.tail' (by have := K.nsl; exact Nat.le_trans this (by omega)) (K.slot (show mst I.ts key = 2 by rw [hs]; exact e2)) fun h2 ρ2 O2 R2 => ?_
      let I2 : IM := { I with slots := ileave I.slots key }
      have W2 : Pcs ρ ρ2 (c :: I2.ns) (.var b [.string key] :: I2.rs) := by
        refine ⟨W1.nodup, by have := W1.len; simpa using this, fun q d r hd hr => ?_, fun d r hd hr => ?_⟩
        · cases q with
          | zero =>
            refine R2.fra d r ?_ (W1.at_ 0 d r (by simpa using hd) (by simpa using hr))
            simp at hd
            rw [← hd]; exact pcs_notin W1
          | succ q => exact R2.at_ q d r (by simpa using hd) (by simpa using hr)
        · exact R2.fra d r (fun hm => hd (List.mem_cons_of_mem _ hm)) (W1.fra d r hd hr)
      have hd : idone I.m key = (0, { ((x.m.ws.foldl (wake key) ⟨mupL I.ts key fun t => { t with st := 4 }, ileave I.slots key, I.queue⟩) : MI) with tasks := mupL (x.m.ws.foldl (wake key) ⟨mupL I.ts key fun t => { t with st := 4 }, ileave I.slots key, I.queue⟩).tasks key fun t => { t with ws := [] } }) := by
        unfold idone
        rw [show mget I.m.tasks key = some x.m from hm]
        simp only
        rw [if_pos (.inl e2), if_neg (by omega), if_pos e2]
        rw [mget_mupL (f := fun t => { t with st := 4 }) (fun _ => rfl), if_pos rfl, show mget I.m.tasks key = some x.m from hm]
        rfl
      refine done_tail (I := I2) hxj hxk hnd K.st (K.ws x.m hxm).1 (K.ws x.m hxm).2 (Nat.le_trans hnt (by omega)) (Nat.le_trans hnq (by omega)) hc O2 W2 fun h' μ' ρ' I' O' W' a b' c' => ?_
      rw [hd] at hq
      exact hq h' μ' ρ' I' O' (W'.self.names b'.symm) a c' ⟨b' ▸ W'.fra, fun d hd => .inl (by rw [b'] at hd; exact hd), fun d hd => by rw [b']; exact hd⟩
    refine bC_iff (fun e3 => ?_) (fun e3 => ?_)
    · -- waiting
      have e3 : x.m.st = 3 := by simp at e3; omega
      refine w_rd O1 W1 1 (j := 0) rfl rfl ?_
      simp only [oB_some, bC_true, bC_false, vInt_int, vBool_bool, vStr_string, vPtr_pointer, vSl_slice, vMap_map, vFun_func, vAgg_agg, vTup_tuple, vIfc_nil, vIfc_iface, lC_cons, lN_nil, aP_some, shO_none, shO_some, Option.isNone_none, Option.isNone_some, Bool.not_true, Bool.not_false]
      have hrx : (Res.var b [.string key] :: I.rs)[5 + (j * 2 + 0)]? = some (.var x.id x.cells) := by
        rw [show 5 + (j * 2 + 0) = (4 + (j * 2 + 0)) + 1 from by omega, List.getElem?_cons_succ]
        exact t_rs hxj (by omega)
      refine w_rd O1 W1 (5 + (j * 2 + 0)) (j := 1) hrx rfl ?_
      simp only [oB_some, bC_true, bC_false, vInt_int, vBool_bool, vStr_string, vPtr_pointer, vSl_slice, vMap_map, vFun_func, vAgg_agg, vTup_tuple, vIfc_nil, vIfc_iface, lC_cons, lN_nil, aP_some, shO_none, shO_some, Option.isNone_none, Option.isNone_some, Bool.not_true, Bool.not_false]
      obtain ⟨ty, hty⟩ := K.on x.m hxm e3
      obtain ⟨y, i, hy, hym, hyi, hil, hyk⟩ := iget_of (I := I) hty
      refine i_look (l := I.t) O1 W1 2 rfl x.m.on ?_
      simp only [hy, Option.map_some, oB_some, bC_true, bC_false, vInt_int, vBool_bool, vStr_string, vPtr_pointer, vSl_slice, vMap_map, vFun_func, vAgg_agg, vTup_tuple, vIfc_nil, vIfc_iface, lC_cons, lN_nil, aP_some, shO_none, shO_some, Option.isNone_none, Option.isNone_some, Bool.not_true, Bool.not_false]
      have hry : ∀ {k : Nat} {r : Res}, k < 2 → y.rs[k]? = some r → (Res.var b [.string key] :: I.rs)[5 + (i * 2 + k)]? = some r := fun {k r} hk hr => by
        rw [show 5 + (i * 2 + k) = (4 + (i * 2 + k)) + 1 from by omega, List.getElem?_cons_succ]
        exact (t_rs hyi hk).trans hr
      have hyM : y.m ∈ I.ts := List.mem_map.2 ⟨y, List.mem_of_getElem? hyi, rfl⟩
      refine w_rd O1 W1 (5 + (i * 2 + 0)) (j := 2) (hry (by omega) rfl) rfl ?_
      simp only [oB_some, bC_true, bC_false, vInt_int, vBool_bool, vStr_string, vPtr_pointer, vSl_slice, vMap_map, vFun_func, vAgg_agg, vTup_tuple, vIfc_nil, vIfc_iface, lC_cons, lN_nil, aP_some, shO_none, shO_some, Option.isNone_none, Option.isNone_some, Bool.not_true, Bool.not_false]
      have hn2 : (c :: I.ns)[5 + (i * 2 + 1)]? = some y.n2 := by
        rw [show 5 + (i * 2 + 1) = (4 + (i * 2 + 1)) + 1 from by omega, List.getElem?_cons_succ]
        exact t_ns hyi (by omega)
      have hcy := W1.at_ _ _ _ hn2 (hry (by omega) rfl)
      have hcb := W1.at_ 0 _ _ rfl rfl
      have hcne : c ≠ y.n2 := fun e => by rw [e, hcy] at hcb; cases hcb
      refine del_ok (p := fun s => bEq s key) (c0 := y.n2) ?_ (by have := (K.ws y.m hyM).1; omega) O1 hcy fun h2 μ2 ρ2 O2 V2 => ?_
      · intro h' μ' ρ' s Q' O' F' hQ
        refine done_fn ?_ hQ
        have hc' := F' c _ (by simpa using hcne) hcb
        exact o_rd O' hc' (j := 0) rfl rfl
      simp only [oB_some, bC_true, bC_false, vInt_int, vBool_bool, vStr_string, vPtr_pointer, vSl_slice, vMap_map, vFun_func, vAgg_agg, vTup_tuple, vIfc_nil, vIfc_iface, lC_cons, lN_nil, aP_some, shO_none, shO_some, Option.isNone_none, Option.isNone_some, Bool.not_true, Bool.not_false]
      have W2 := W1.put hn2 V2
      have hr2 : ∀ {r : Res}, ((Res.var b [.string key] :: I.rs).set (5 + (i * 2 + 1)) r)[5 + (i * 2 + 0)]? = some (.var y.id y.cells) := fun {r} => by
        rw [List.getElem?_set_ne (by omega)]
        exact hry (by omega) rfl
      refine w_wr O2 W2 (5 + (i * 2 + 0)) (j := 2) hr2 (show 2 < 4 by omega) rfl fun h3 ρ3 O3 W3 => ?_
      let y1 : IT := { y with m := { y.m with ws := y.m.ws.filter fun k => !bEq k key } }
      let I1 : IM := I.up i y1
      have hns1 : I1.ns = I.ns := congrArg (fun l => I.n0 :: I.n1 :: I.n2 :: I.n3 :: l) (ns_set (x' := y1) hyi rfl)
      have hts1 : I1.ts = mupL I.ts x.m.on fun t => { t with ws := t.ws.filter fun k => !bEq k key } := by
        show (I.up i y1).ts = _
        rw [up_ts]
        exact mupL_set (f := fun t => { t with ws := t.ws.filter fun k => !bEq k key }) hnd (show I.ts[i]? = some y.m by simp [IM.ts, hyi]) hyk
      have hk1 : mkeys I1.ts = mkeys I.ts := by rw [hts1]; exact mupL_keys (f := fun t => { t with ws := t.ws.filter fun k => !bEq k key }) (fun _ => rfl) _
      have hyst := K.st y.m hyM
      have W3 : Pcs ρ ρ3 (c :: I1.ns) (.var b [.string key] :: I1.rs) := by
        refine (W3.names (by rw [hns1])).eq ?_
        rw [show 5 + (i * 2 + 0) = (4 + (i * 2 + 0)) + 1 from by omega, show 5 + (i * 2 + 1) = (4 + (i * 2 + 1)) + 1 from by omega]
        simp only [List.set_cons_succ]
        rw [t_set2 (x' := y1) (ra := .var y.id (y.cells.set 2 (.slice y.wa (y.m.ws.filter fun s => !bEq s key).length y.wc))) (rb := .sl y.wa y.wc 1 (strs (y.m.ws.filter fun s => !bEq s key))) hyi rfl]
        have h1 : I.head = I1.head := by
          have g1 := fun s => manyOf_set (l := I.ts) (j := i) (t := y.m) (t' := y1.m) (by simp [IM.ts, hyi]) (by omega) (show y.m.st ≠ 0 by omega) s
          have g4 : I1.ts = I.ts.set i y1.m := up_ts
          have g5 : ∀ s, manyOf I1.ts s = manyOf I.ts s := fun s => by rw [g4, g1 s]; show _ - (if y.m.st = s then 1 else 0) + (if y.m.st = s then 1 else 0) = _; omega
          unfold IM.head
          simp only [g5]
          rfl
        have h2 : ents I1.t = ents I.t := up_ents (x' := y1) hyi rfl rfl
        rw [h1, ← h2]
      obtain ⟨t1, ht1⟩ : ∃ t, mget I1.ts key = some t := by
        have := mget_keys key hk1
        rw [hm] at this
        exact isSome_ex (by simpa using this)
      obtain ⟨x1, j1, hx1, hx1m, hx1j, hj1l, hx1k⟩ := iget_of ht1
      have hid : x1.id = x.id ∧ j1 = j := by
        have hj1 : j1 = j := by
          have hnd1 : (mkeys I1.ts).Nodup := by rw [hk1]; exact hnd
          have h1 : (mkeys I1.ts)[j1]? = some key := by simp [mkeys, IM.ts, hx1j, hx1k]
          have h2 : (mkeys I1.ts)[j]? = some key := by rw [hk1]; simp [mkeys, IM.ts, hxj, hxk]
          have a1 := List.getElem?_eq_some_iff.1 h1
          have a2 := List.getElem?_eq_some_iff.1 h2
          exact (List.getElem_inj (h₀ := a1.1) (h₁ := a2.1) hnd1).1 (by rw [a1.2, a2.2])
        subst hj1
        refine ⟨?_, rfl⟩
        have : (I.t.set i y1)[j1]? = some x1 := hx1j
        rw [List.getElem?_set] at this
        split at this
        · rename_i eij
          subst eij
          first | rw [if_pos hil] at this | skip
          cases this
          rw [hxj] at hyi; cases hyi; rfl
        · rw [hxj] at this; cases this; rfl
      obtain ⟨hid, rfl⟩ := hid
      have hst1 : ∀ t, t ∈ I1.ts → 1 ≤ t.st ∧ t.st ≤ 4 := fun t ht => by
        rw [hts1] at ht
        obtain ⟨z, hz, e⟩ := List.mem_map.1 ht
        have := K.st z hz
        rw [← e]; split <;> exact this
      have hws1 : x1.m.ws.length ≤ 1000 ∧ ∀ k, k ∈ x1.m.ws → ∃ t', mget I.ts k = some t' := by
        have : x1.m ∈ I1.ts := List.mem_map.2 ⟨x1, List.mem_of_getElem? hx1j, rfl⟩
        rw [hts1] at this
        obtain ⟨z, hz, e⟩ := List.mem_map.1 this
        have hz' := K.ws z hz
        rw [← e]
        split
        · refine ⟨Nat.le_trans (List.length_filter_le _ _) hz'.1, fun k hk => hz'.2 k (List.mem_filter.1 hk).1⟩
        · exact hz'
      have hd : idone I.m key = (0, { ((x1.m.ws.foldl (wake key) ⟨mupL I1.ts key fun t => { t with st := 4 }, I.slots, I.queue⟩) : MI) with tasks := mupL (x1.m.ws.foldl (wake key) ⟨mupL I1.ts key fun t => { t with st := 4 }, I.slots, I.queue⟩).tasks key fun t => { t with ws := [] } }) := by
        unfold idone
        rw [show mget I.m.tasks key = some x.m from hm]
        simp only
        rw [if_pos (.inr e3), if_pos e3, if_neg (by omega)]
        rw [mget_mupL (f := fun t => { t with st := 4 }) (fun _ => rfl), if_pos rfl]
        rw [show mupL I.m.tasks x.m.on (fun t => { t with ws := t.ws.filter fun k => !bEq k key }) = I1.ts from hts1.symm]
        rw [ht1, ← hx1m]
        rfl
      rw [← hid]
      refine done_tail (I := I1) hx1j hx1k (by rw [hk1]; exact hnd) hst1 hws1.1 (fun k hk => ?_) (by simp only [I1, List.length_set]; omega) (Nat.le_trans hnq (by omega)) hc O3 W3 fun h' μ' ρ' I' O' W' a b' c' => ?_
      · obtain ⟨t', h'⟩ := hws1.2 k hk
        have := mget_keys k hk1
        rw [h'] at this
        exact isSome_ex (by simpa using this)
      · rw [hd] at hq
        have b'' : I'.ns = I.ns := b'.trans hns1
        exact hq h' μ' ρ' I' O' (W'.self.names b'.symm) a c' ⟨hns1 ▸ W'.fra, fun d hd => .inl (by rw [b''] at hd; exact hd), fun d hd => by rw [b'']; exact hd⟩
    · have hd : idone I.m key = (4, I.m) := by
        unfold idone
        rw [show mget I.m.tasks key = some x.m from hm]
        simp only
        rw [if_neg]
        simp at e2 e3
        omega
      rw [hd] at hq
      exact hq _ _ _ I O1 (W1.tail hc).self rfl rfl (FrN.of (W1.tail hc).fra)
/-- How many slots. -/
def slotsOf (n : Int) : Nat := (if 64 < (if 1 > n then 1 else n) then 64 else if 1 > n then 1 else n).toNat
theorem slotsOf_eq (n : Int) : (if 64 < (if 1 > n then 1 else n) then 64 else if 1 > n then 1 else n) = (slotsOf n : Int) := by
  unfold slotsOf
  split <;> split <;> omega
theorem slotsOf_range (n : Int) : 1 ≤ slotsOf n ∧ slotsOf n ≤ 64 := by
  unfold slotsOf
  split <;> split <;> omega
theorem i_new_ok {n : Int} (O : Own h μ ρ) (hq : ∀ h' μ' ρ' (I : IM), Own h' μ' ρ' → Pcs ρ ρ' I.ns I.rs → I.m = ⟨[], List.replicate (slotsOf n) e0, []⟩ → (∀ c, c ∈ I.ns → ρ c = none) → Q (.pointer (some ⟨I.p, 0, none⟩)) h') :
    EvQ P f_sched_New [.int .i64 n] h Q := by
  refine r_sched_New ?_
  rw [slotsOf_eq]
  have hr := slotsOf_range n
  obtain ⟨cm, hcm⟩ := O.fresh
  have O1 := o_addMap O cm
  have W1 : Pcs ρ (ρ.upd cm (.map h.next [])) [cm] [.map h.next []] := p0.new hcm _
  refine w_make (P := P) O1 W1 ti_ty_sl_string ti_ty_string (slotsOf n) rfl ?_ (by omega) (by omega) fun h2 μ2 ρ2 cs sa O2 W2 hcs => ?_
  · show allOne (rep [.string _] _) = true
    rw [rep_one]; exact allOne_of fun v hv => by rw [(List.mem_replicate.1 hv).2]; rfl
  simp only [oB_some, bC_true, bC_false, vInt_int, vBool_bool, vStr_string, vPtr_pointer, vSl_slice, vMap_map, vFun_func, vAgg_agg, vTup_tuple, vIfc_nil, vIfc_iface, lC_cons, lN_nil, aP_some, shO_none, shO_some, Option.isNone_none, Option.isNone_some, Bool.not_true, Bool.not_false]
  obtain ⟨ρ3, cq, O3, W3, hcq⟩ := w_nil O2 W2 1
  obtain ⟨μ4, ρ4, c0, O4, W4, hc0⟩ := w_new O3 W3 [.map (some h.next), .slice sa (slotsOf n) (slotsOf n), .slice none 0 0, .int .i64 0, .int .i64 0, .int .i64 0, .int .i64 0, .int .i64 0]
  let I : IM := ⟨[], List.replicate (slotsOf n) e0, [], c0, cm, cs, cq, h2.next, h.next, sa, slotsOf n, none, 0⟩
  refine hq _ _ _ I O4 ?_ rfl ?_
  · have hnd := W4.nodup
    have a0 := W4.at_ 0 _ _ rfl rfl
    have a1 := W4.at_ 1 _ _ rfl rfl
    have a2 := W4.at_ 2 _ _ rfl rfl
    have a3 := W4.at_ 3 _ _ rfl rfl
    refine ⟨?_, rfl, fun i c r hc hr => ?_, fun c r hn hc => W4.fra c r (fun hm => hn ?_) hc⟩
    · simp only [I, List.flatMap_nil]
      simp only [List.nodup_cons, List.mem_cons, List.not_mem_nil, or_false, not_or, not_false_eq_true, true_and, and_true, List.nodup_nil] at hnd ⊢
      simp only [List.flatMap_nil, List.not_mem_nil, List.nodup_nil, not_false_eq_true, and_true]
      omega
    · match i with
      | 0 => simp [I] at hc hr; subst hc hr; rw [a0]; simp [IM.head, IM.ts, manyOf]
      | 1 => simp [I] at hc hr; subst hc hr; rw [a3]; simp [ents, keyd]
      | 2 => simp [I] at hc hr; subst hc hr; rw [a2]; show some (Res.sl sa _ 1 (rep [.string e0] _)) = _; rw [rep_one]
      | 3 => simp [I] at hc hr; subst hc hr; rw [a1]
      | k + 4 => simp [I] at hc
    · simp only [I, List.flatMap_nil, List.mem_cons, List.not_mem_nil, or_false] at hm ⊢
      rcases hm with x | x | x | x <;> simp [x]
  · intro c hc
    simp only [I, List.flatMap_nil, List.mem_cons, List.not_mem_nil, or_false] at hc
    rcases hc with rfl | rfl | rfl | rfl
    · exact hc0
    · exact hcm
    · exact hcs
    · exact hcq
end Go.Proofs.YtgdkekdedgkglaaDoor
end

section
/- The scheduler: what its functions come to where the invariant holds. -/
namespace Go.Proofs.YtgdkekdedgkglaaDoor
open Go.Abs Go.Abs.Sch
set_option maxRecDepth 100000
attribute [local irreducible] unitAt EvQ
variable {h : AW} {μ : Paint} {ρ : Store} {Q : Value → AW → Prop}

theorem fillI_of {m : MI} {B : Nat} (K : IOk m) (S : Sz m B) (hB : B ≤ 900000) : FillI m m.slots.length :=
  ⟨K.nodup, fun k hk => let ⟨t, ht, _⟩ := K.ig.q1 k hk; ⟨t, ht⟩, fun t ht => K.ig.st t.key t (K.mem ht), fun t ht => by have := S.st t ht; have := S.ns; omega, by have := S.nt; omega, by have := K.queue_le; have := S.nt; omega⟩
theorem waitI_of {m : MI} {B : Nat} {key : Str} (K : IOk m) (S : Sz m B) : WaitI m key :=
  ⟨K.nodup, fun t ht => K.ig.st t.key t (K.mem ht), fun t ht h3 => let ⟨t', h', _⟩ := K.ig.w2 t.key t (K.mem ht) h3; ⟨t', h'⟩, fun h => let ⟨t, ht, h2⟩ := mst_some h (by omega); K.ig.s2 key t ht h2,
    fun t ht => by have := K.ws_le ht; have := S.nt; omega, by have := S.nt; omega, by have := K.queue_le; have := S.nt; omega, by have := S.ns; omega⟩
theorem doneI_of {m : MI} {B : Nat} {key : Str} (K : IOk m) (S : Sz m B) : DoneI m key :=
  ⟨K.nodup, fun t ht => K.ig.st t.key t (K.mem ht), fun t ht h3 => let ⟨t', h', _⟩ := K.ig.w2 t.key t (K.mem ht) h3; ⟨t', h'⟩, fun h => let ⟨t, ht, h2⟩ := mst_some h (by omega); K.ig.s2 key t ht h2,
    fun t ht => ⟨by have := K.ws_le ht; have := S.nt; omega, fun k hk => let ⟨t', h', _⟩ := K.ig.w1 t.key t (K.mem ht) k hk; ⟨t', h'⟩⟩, by have := S.nt; omega, by have := K.queue_le; have := S.nt; omega, by have := S.ns; omega⟩

/-- A scheduler of this state stands. -/
def At (ρ : Store) (I : IM) (m : MI) : Prop := ImpAt ρ I ∧ I.m = m
theorem At.ts {I : IM} {m : MI} (A : At ρ I m) : I.ts = m.tasks := by rw [← A.2]; rfl
theorem At.slots {I : IM} {m : MI} (A : At ρ I m) : I.slots = m.slots := by rw [← A.2]; rfl
theorem At.queue {I : IM} {m : MI} (A : At ρ I m) : I.queue = m.queue := by rw [← A.2]; rfl
theorem At.tl {I : IM} {m : MI} (A : At ρ I m) : I.t.length = m.tasks.length := by rw [← A.ts]; simp [IM.ts]
theorem At.keep {ns ms : List Nat} {ρ' : Store} {I : IM} {m : MI} (A : At ρ I m) (F : FrN ns ρ ms ρ') (hd : ∀ c, c ∈ ns → c ∉ I.ns) : At ρ' I m := ⟨A.1.keep F.1 hd, A.2⟩
/-- What a call may do: the scheduler's own names. -/
def Acts (Q : Value → AW → Prop) (ρ : Store) (I : IM) (v : Value) (m' : MI) : Prop :=
  ∀ h' μ' ρ' (I' : IM), Own h' μ' ρ' → At ρ' I' m' → I'.p = I.p → FrN I.ns ρ I'.ns ρ' → Q v h'
/-- The same, and a fresh slice of strings. -/
def ActsS (F : Option Addr → Nat → AW → Prop) (ρ : Store) (I : IM) (x : List Str) (m' : MI) : Prop :=
  ∀ h' μ' ρ' (I' : IM) co oa oc, Own h' μ' ρ' → At ρ' I' m' → I'.p = I.p → FrN I.ns ρ I'.ns ρ' → ρ co = none → co ∉ I'.ns → ρ' co = some (.sl oa oc 1 (strs x)) → F oa oc h'
theorem a_want {ks : List Str} {a : Option Addr} {c B : Nat} {I : IM} {m : MI} (O : Own h μ ρ) (A : At ρ I m) (K : IOk m) (S : Sz m B) (hk : ks.length ≤ 1000) (X : Rd ρ I.ns a (strs ks)) (hq : Acts Q ρ I (.int .i64 ((iwant m ks).1 : Nat)) (iwant m ks).2) :
    EvQ P f_p_sched_Sched_Want [.pointer (some ⟨I.p, 0, none⟩), .slice a ks.length c] h Q := by
  have h1 := A.tl
  have h2 := K.queue_le
  have h3 := S.nt
  refine i_want_ok (by omega) O A.1 X (by omega) (by rw [A.queue]; omega) ?_
  rw [A.2]
  exact fun h' μ' ρ' I' O' R' a b F => hq h' μ' ρ' I' O' ⟨R', a⟩ b F
theorem a_fill {B : Nat} {I : IM} {m : MI} (O : Own h μ ρ) (A : At ρ I m) (K : IOk m) (S : Sz m B) (hB : B ≤ 900000)
    (hq : ActsS (fun oa oc h' => Q (.slice oa (ifillFrom m.slots.length m [] 0).2.length oc) h') ρ I (ifillFrom m.slots.length m [] 0).2 (ifillFrom m.slots.length m [] 0).1) :
    EvQ P f_p_sched_Sched_Fill [.pointer (some ⟨I.p, 0, none⟩)] h Q := by
  obtain ⟨A1, rfl⟩ := A
  refine i_fill_ok O A1 (by have := S.ns; exact Nat.le_trans this (by omega)) (fillI_of K S hB) fun h' μ' ρ' I' co oa oc O' W' hco a b c => ?_
  have hn := pcs_notin W'
  have W2 := W'.tail hco
  refine hq h' μ' ρ' I' co oa oc O' ⟨(W2.self.names b.symm), a⟩ c ⟨W2.fra, fun d hd => .inl (by rw [b] at hd; exact hd), fun d hd => by rw [b]; exact hd⟩ hco (by rw [b]; exact hn) (W'.at_ 0 _ _ rfl rfl)
theorem a_pick {B : Nat} {I : IM} {m : MI} {n : Int} (O : Own h μ ρ) (A : At ρ I m) (K : IOk m) (S : Sz m B) (h0 : 0 < m.slots.length) (hq : ∀ h' μ' ρ', Own h' μ' ρ' → At ρ' I m → FrN I.ns ρ I.ns ρ' → Q (ipickV m.slots n) h') :
    EvQ P f_p_sched_Sched_Pick [.pointer (some ⟨I.p, 0, none⟩), .int .i64 n] h Q := by
  obtain ⟨A1, rfl⟩ := A
  refine i_pick_ok O A1 h0 (by have := S.ns; exact Nat.le_trans this (by omega)) (K.pick h0 n) fun h' μ' ρ' O' W' => ?_
  exact hq h' μ' ρ' O' ⟨W'.self, rfl⟩ (FrN.of W'.fra)
theorem a_wait {B : Nat} {I : IM} {m : MI} {key on : Str} (O : Own h μ ρ) (A : At ρ I m) (K : IOk m) (S : Sz m B)
    (hq : ActsS (fun oa oc h' => Q (.tuple ⟨[.slice oa (iwait m key on).1.length oc, .int .i64 ((iwait m key on).2.1 : Nat)]⟩) h') ρ I (iwait m key on).1 (iwait m key on).2.2) :
    EvQ P f_p_sched_Sched_Wait [.pointer (some ⟨I.p, 0, none⟩), .string key, .string on] h Q := by
  obtain ⟨A1, rfl⟩ := A
  refine i_wait_ok O A1 (waitI_of K S) fun h' μ' ρ' I' co oa oc O' W' a hco b F => ?_
  exact hq h' μ' ρ' I' co oa oc O' ⟨W'.tail', a⟩ b F hco (pcs_notin W') (W'.at_ 0 _ _ rfl rfl)
theorem a_done {B : Nat} {I : IM} {m : MI} {key : Str} (O : Own h μ ρ) (A : At ρ I m) (K : IOk m) (S : Sz m B) (hq : Acts Q ρ I (.int .i64 ((idone m key).1 : Nat)) (idone m key).2) :
    EvQ P f_p_sched_Sched_Done [.pointer (some ⟨I.p, 0, none⟩), .string key] h Q := by
  obtain ⟨A1, rfl⟩ := A
  exact i_done_ok O A1 (doneI_of K S) fun h' μ' ρ' I' O' R' a b F => hq h' μ' ρ' I' O' ⟨R', a⟩ b F
theorem a_state {I : IM} {m : MI} {k : Str} (O : Own h μ ρ) (A : At ρ I m) (hq : Q (.int .i64 (mst m.tasks k : Nat)) h) : EvQ P f_p_sched_Sched_State [.pointer (some ⟨I.p, 0, none⟩), .string k] h Q :=
  i_state_ok O A.1 (by rw [A.ts]; exact hq)
theorem a_starts {I : IM} {m : MI} {k : Str} (O : Own h μ ρ) (A : At ρ I m) (hq : Q (.int .i64 (mstarts m.tasks k : Nat)) h) : EvQ P f_p_sched_Sched_Starts [.pointer (some ⟨I.p, 0, none⟩), .string k] h Q :=
  i_starts_ok O A.1 (by rw [A.ts]; exact hq)
theorem a_over {B : Nat} {I : IM} {m : MI} (O : Own h μ ρ) (A : At ρ I m) (S : Sz m B) (hq : Q (.bool (!ilive m.tasks && (manyOf m.tasks 3 == 0))) h) : EvQ P f_p_sched_Sched_Over [.pointer (some ⟨I.p, 0, none⟩)] h Q :=
  i_over_ok O A.1 (by have := A.tl; have := S.nt; omega) (by rw [A.ts]; exact hq)
theorem a_stuck {B : Nat} {I : IM} {m : MI} (O : Own h μ ρ) (A : At ρ I m) (S : Sz m B) (hq : Q (.bool (!ilive m.tasks && decide (manyOf m.tasks 3 > 0))) h) : EvQ P f_p_sched_Sched_Stuck [.pointer (some ⟨I.p, 0, none⟩)] h Q :=
  i_stuck_ok O A.1 (by have := A.tl; have := S.nt; omega) (by rw [A.ts]; exact hq)
theorem a_queue {B : Nat} {I : IM} {m : MI} (O : Own h μ ρ) (A : At ρ I m) (K : IOk m) (S : Sz m B) (hq : NewS Q ρ m.queue) : EvQ P f_p_sched_Sched_Queue [.pointer (some ⟨I.p, 0, none⟩)] h Q :=
  i_queue_ok O A.1 (by rw [A.queue]; have := K.queue_le; have := S.nt; omega) (by rw [A.queue]; exact hq)
theorem a_slots {B : Nat} {I : IM} {m : MI} (O : Own h μ ρ) (A : At ρ I m) (S : Sz m B) (hq : NewS Q ρ m.slots) : EvQ P f_p_sched_Sched_Slots [.pointer (some ⟨I.p, 0, none⟩)] h Q :=
  i_slots_ok O A.1 (by rw [A.slots]; have := S.ns; omega) (by rw [A.slots]; exact hq)
theorem a_new {n : Int} (O : Own h μ ρ) (hq : ∀ h' μ' ρ' (I : IM), Own h' μ' ρ' → At ρ' I ⟨[], List.replicate (slotsOf n) e0, []⟩ → Fra [] ρ ρ' → (∀ c, c ∈ I.ns → ρ c = none) → Q (.pointer (some ⟨I.p, 0, none⟩)) h') : EvQ P f_sched_New [.int .i64 n] h Q :=
  i_new_ok O fun h' μ' ρ' I O' W' a hf => hq h' μ' ρ' I O' ⟨W'.self, a⟩ (fun c r _ hc => W'.fra c r (fun hm => by rw [hf c hm] at hc; cases hc) hc) hf
end Go.Proofs.YtgdkekdedgkglaaDoor
end

section
/- Rules of walks, printed by a program of ours: group Law. -/
namespace Go.Proofs.YtgdkekdedgkglaaDoor
open Go.Abs
set_option maxRecDepth 100000
theorem r_brickyardlaw20_works {h : AW} {Q : Value → AW → Prop} (H : EvQ P f_sched_New [Value.int IntKind.i64 2] h fun v1 h2 => vPtr v1 fun p3 => bC (Option.isNone p3) (Q (Value.bool false) h2) (EvQ P
  f_p_sched_Sched_Want [Value.pointer p3, Value.slice (some (Addr.mk (AW.next h2) 0 none)) 3 3] (AW.addVar h2 [Value.string (ByteArray.mk #[97]), Value.string (ByteArray.mk #[98]), Value.string
  (ByteArray.mk #[99])]) fun v4 h5 => vInt IntKind.i64 v4 fun n6 => bC (n6 != 0) (Q (Value.bool false) h5) (EvQ P f_p_sched_Sched_Fill [Value.pointer p3] h5 fun v7 h8 => vSl v7 fun p9 m10 m11 =>
  EvQ P f_slices_Equal_sl_string_string [Value.slice p9 m10 m11, Value.slice (some (Addr.mk (AW.next h8) 0 none)) 2 2] (AW.addVar h8 [Value.string (ByteArray.mk #[97]), Value.string (ByteArray.mk #[98])])
  fun v12 h13 => vBool v12 fun b14 => bC (!b14) (Q (Value.bool false) h13) (EvQ P f_p_sched_Sched_Wait [Value.pointer p3, Value.string (ByteArray.mk #[97]), Value.string (ByteArray.mk #[98])] h13
  fun v15 h16 => vTup v15 fun l17 => lC l17 fun v18 l19 => vSl v18 fun p20 m21 m22 => lC l19 fun v23 l24 => vInt IntKind.i64 v23 fun n25 => lN l24 (EvQ P f_p_sched_Sched_Pick [Value.pointer p3,
  Value.int IntKind.i64 0] h16 fun v26 h27 => vTup v26 fun l28 => lC l28 fun v29 l30 => vStr v29 fun s31 => lC l30 fun v32 l33 => vBool v32 fun b34 => lN l33 (bC ((↑m21 : Int) ==
  0) (bC (n25 == 0) (bC (bEq s31 (ByteArray.mk #[98])) (bC b34 (EvQ P f_p_sched_Sched_State [Value.pointer p3, Value.string (ByteArray.mk #[97])] h27 fun v35 h36 => vInt IntKind.i64 v35 fun n37 =>
  bC (n37 == 3) (EvQ P f_p_sched_Sched_Done [Value.pointer p3, Value.string (ByteArray.mk #[98])] h36 fun v38 h39 => vInt IntKind.i64 v38 fun n40 => bC (n40 == 0) (EvQ P f_p_sched_Sched_Queue [Value.pointer p3]
  h39 fun v41 h42 => vSl v41 fun p43 m44 m45 => EvQ P f_slices_Equal_sl_string_string [Value.slice p43 m44 m45, Value.slice (some (Addr.mk (AW.next h42) 0 none)) 2 2] (AW.addVar h42 [Value.string
  (ByteArray.mk #[99]), Value.string (ByteArray.mk #[97])]) fun v46 h47 => vBool v46 fun b48 => Q (Value.bool b48) h47) (Q (Value.bool false) h39)) (Q (Value.bool false) h36)) (Q
  (Value.bool false) h27)) (Q (Value.bool false) h27)) (Q (Value.bool false) h27)) (Q (Value.bool false) h27))))))) : EvQ P f_brickyardlaw20_works [] h Q := fn_ok (n := 400) (ann := annOf []) (Eq.mp
  (by kernel_rfl) H)
theorem r_brickyardlaw20_name {n1 : Int} {h : AW} {Q : Value → AW → Prop} (H : EvQ P f_strconv_Itoa [Value.int IntKind.i64 n1] h fun v2 h3 => vStr v2 fun s4 => bC (Nat.ble (1 + ByteArray.size s4)
  9223372036854775807) (Q (Value.string (ByteArray.mk #[116] ++ s4)) h3) False) : EvQ P f_brickyardlaw20_name [Value.int IntKind.i64 n1] h Q := fn_ok (n := 400) (ann := annOf []) (Eq.mp (by
  kernel_rfl) H)
end Go.Proofs.YtgdkekdedgkglaaDoor
end

section
/- The scheduler works: the law's own test of it. -/
namespace Go.Proofs.YtgdkekdedgkglaaDoor
open Go.Abs Go.Abs.Sch
set_option maxRecDepth 100000
attribute [local irreducible] unitAt EvQ
variable {h : AW} {μ : Paint} {ρ : Store} {Q : Value → AW → Prop}
abbrev sa : Str := ⟨#[97]⟩
abbrev sb : Str := ⟨#[98]⟩
abbrev sc : Str := ⟨#[99]⟩
def w0 : MI := ⟨[], List.replicate (slotsOf 2) e0, []⟩
def w1 : MI := (iwant w0 [sa, sb, sc]).2
def w2 : MI := (ifillFrom w1.slots.length w1 [] 0).1
def w3 : MI := (iwait w2 sa sb).2.2
def w4 : MI := (idone w3 sb).2
theorem fra_call {ns : List Nat} {ρ ρ1 ρ2 : Store} {ns' : List Nat} (F : Fra [] ρ ρ1) (F2 : FrN ns ρ1 ns' ρ2) (hn : ∀ c, c ∈ ns → ρ c = none) : Fra [] ρ ρ2 := fun c r _ hc => F2.1 c r (fun hm => by rw [hn c hm] at hc; cases hc) (F c r (by simp) hc)
theorem new_names {ns ns' : List Nat} {ρ ρ1 ρ2 : Store} (F : Fra [] ρ ρ1) (F2 : FrN ns ρ1 ns' ρ2) (hn : ∀ c, c ∈ ns → ρ c = none) : ∀ c, c ∈ ns' → ρ c = none := fun c hc => by
  rcases F2.2.1 c hc with x | x
  · exact hn c x
  · cases hz : ρ c with
    | none => rfl
    | some r => rw [F c r (by simp) hz] at x; cases x
theorem works_ok (O : Own h μ ρ) (hq : ∀ h' μ' ρ', Own h' μ' ρ' → Fra [] ρ ρ' → Q (.bool true) h') : EvQ P f_brickyardlaw20_works [] h Q := by
  have K0 : IOk w0 := iok_new _
  have S0 : Sz w0 0 := sz_new (of_decide_eq_true (by kernel_rfl))
  have K1 : IOk w1 := iok_want K0
  have S1 : Sz w1 0 := sz_want S0 (of_decide_eq_true (by kernel_rfl))
  have K2 : IOk w2 := iok_fill _ K1
  have S2 : Sz w2 2 := sz_fill 2 S1
  have K3 : IOk w3 := iok_wait K2
  have S3 : Sz w3 2 := (sz_wait S2 (of_decide_eq_true (by kernel_rfl))).1
  have K4 : IOk w4 := iok_done K3
  have S4 : Sz w4 2 := (sz_done K3 S3).1
  refine r_brickyardlaw20_works ?_
  refine a_new (n := 2) O fun h1 μ1 ρ1 I1 O1 A1 F1 n1 => ?_
  have A1 : At ρ1 I1 w0 := A1
  simp only [oB_some, bC_true, bC_false, vInt_int, vBool_bool, vStr_string, vPtr_pointer, vSl_slice, vMap_map, vFun_func, vAgg_agg, vTup_tuple, vIfc_nil, vIfc_iface, lC_cons, lN_nil, aP_some, shO_none, shO_some, Option.isNone_none, Option.isNone_some, Bool.not_true, Bool.not_false]
  obtain ⟨μ2, ρ2, c2, O2, W2, hc2⟩ := w_block O1 A1.1 (strs [sa, sb, sc]) (n := 3) (sz := 1) rfl rfl
  have A2 : At ρ2 I1 w0 := ⟨W2.self.tail', A1.2⟩
  have F2 : Fra [] ρ ρ2 := fra_call F1 (FrN.of (W2.tail hc2).fra) n1
  have X2 : Rd ρ2 I1.ns (some ⟨h1.next, 0, none⟩) (strs [sa, sb, sc]) := Rd.of_sl O2 (pcs_notin W2) (W2.at_ 0 _ _ rfl rfl)
  refine a_want (ks := [sa, sb, sc]) O2 A2 K0 S0 (by simp) X2 fun h3 μ3 ρ3 I3 O3 A3 p3 F3 => ?_
  have n3 := new_names F2 F3 n1
  have F3 := fra_call F2 F3 n1
  rw [show (iwant w0 [sa, sb, sc]).1 = 0 from by kernel_rfl]
  simp only [oB_some, bC_true, bC_false, vInt_int, vBool_bool, vStr_string, vPtr_pointer, vSl_slice, vMap_map, vFun_func, vAgg_agg, vTup_tuple, vIfc_nil, vIfc_iface, lC_cons, lN_nil, aP_some, shO_none, shO_some, Option.isNone_none, Option.isNone_some, Bool.not_true, Bool.not_false, show (((0 : Nat) : Int) != 0) = false from rfl]
  rw [← p3]
  have A3 : At ρ3 I3 w1 := A3
  refine a_fill O3 A3 K1 S1 (by omega) fun h4 μ4 ρ4 I4 co oa oc O4 A4 p4 F4 hco hcn W4 => ?_
  have n4 := new_names F3 F4 n3
  have F4 := fra_call F3 F4 n3
  have A4 : At ρ4 I4 w2 := A4
  simp only [oB_some, bC_true, bC_false, vInt_int, vBool_bool, vStr_string, vPtr_pointer, vSl_slice, vMap_map, vFun_func, vAgg_agg, vTup_tuple, vIfc_nil, vIfc_iface, lC_cons, lN_nil, aP_some, shO_none, shO_some, Option.isNone_none, Option.isNone_some, Bool.not_true, Bool.not_false]
  obtain ⟨μ5, ρ5, c5, O5, W5, hc5⟩ := w_block O4 A4.1 (strs [sa, sb]) (n := 2) (sz := 1) rfl rfl
  have A5 : At ρ5 I4 w2 := ⟨W5.self.tail', A4.2⟩
  have F5 : Fra [] ρ ρ5 := fra_call F4 (FrN.of (W5.tail hc5).fra) n4
  refine equal_ok (y := [sa, sb]) (O5.sl ((W5.tail hc5).fra _ _ hcn W4)) (O5.sl (W5.at_ 0 _ _ rfl rfl)) (of_decide_eq_true (by kernel_rfl)) ?_
  rw [show decide ((ifillFrom w1.slots.length w1 [] 0).2 = [sa, sb]) = true from by kernel_rfl]
  simp only [oB_some, bC_true, bC_false, vInt_int, vBool_bool, vStr_string, vPtr_pointer, vSl_slice, vMap_map, vFun_func, vAgg_agg, vTup_tuple, vIfc_nil, vIfc_iface, lC_cons, lN_nil, aP_some, shO_none, shO_some, Option.isNone_none, Option.isNone_some, Bool.not_true, Bool.not_false]
  rw [← p4]
  refine a_wait O5 A5 K2 S2 fun h6 μ6 ρ6 I6 co6 oa6 oc6 O6 A6 p6 F6 hco6 hcn6 W6 => ?_
  have n6 := new_names F5 F6 n4
  have F6 := fra_call F5 F6 n4
  have A6 : At ρ6 I6 w3 := A6
  simp only [oB_some, bC_true, bC_false, vInt_int, vBool_bool, vStr_string, vPtr_pointer, vSl_slice, vMap_map, vFun_func, vAgg_agg, vTup_tuple, vIfc_nil, vIfc_iface, lC_cons, lN_nil, aP_some, shO_none, shO_some, Option.isNone_none, Option.isNone_some, Bool.not_true, Bool.not_false]
  rw [← p6]
  refine a_pick O6 A6 K3 S3 (of_decide_eq_true (by kernel_rfl)) fun h7 μ7 ρ7 O7 A7 F7 => ?_
  have F7 := fra_call F6 F7 n6
  rw [show ipickV w3.slots 0 = .tuple ⟨[.string sb, .bool true]⟩ from by kernel_rfl]
  simp only [oB_some, bC_true, bC_false, vInt_int, vBool_bool, vStr_string, vPtr_pointer, vSl_slice, vMap_map, vFun_func, vAgg_agg, vTup_tuple, vIfc_nil, vIfc_iface, lC_cons, lN_nil, aP_some, shO_none, shO_some, Option.isNone_none, Option.isNone_some, Bool.not_true, Bool.not_false]
  rw [show (iwait w2 sa sb).1.length = 0 from by kernel_rfl, show (iwait w2 sa sb).2.1 = 0 from by kernel_rfl]
  rw [show (((0 : Nat) : Int) == 0) = true from rfl]
  simp only [oB_some, bC_true, bC_false, vInt_int, vBool_bool, vStr_string, vPtr_pointer, vSl_slice, vMap_map, vFun_func, vAgg_agg, vTup_tuple, vIfc_nil, vIfc_iface, lC_cons, lN_nil, aP_some, shO_none, shO_some, Option.isNone_none, Option.isNone_some, Bool.not_true, Bool.not_false, bEq_self]
  refine a_state O7 A7 ?_
  rw [show mst w3.tasks sa = 3 from by kernel_rfl]
  simp only [oB_some, bC_true, bC_false, vInt_int, vBool_bool, vStr_string, vPtr_pointer, vSl_slice, vMap_map, vFun_func, vAgg_agg, vTup_tuple, vIfc_nil, vIfc_iface, lC_cons, lN_nil, aP_some, shO_none, shO_some, Option.isNone_none, Option.isNone_some, Bool.not_true, Bool.not_false, show (((3 : Nat) : Int) == 3) = true from rfl]
  refine a_done O7 A7 K3 S3 fun h8 μ8 ρ8 I8 O8 A8 p8 F8 => ?_
  have n8 := new_names F7 F8 n6
  have F8 := fra_call F7 F8 n6
  have A8 : At ρ8 I8 w4 := A8
  rw [show (idone w3 sb).1 = 0 from by kernel_rfl]
  simp only [oB_some, bC_true, bC_false, vInt_int, vBool_bool, vStr_string, vPtr_pointer, vSl_slice, vMap_map, vFun_func, vAgg_agg, vTup_tuple, vIfc_nil, vIfc_iface, lC_cons, lN_nil, aP_some, shO_none, shO_some, Option.isNone_none, Option.isNone_some, Bool.not_true, Bool.not_false, show (((0 : Nat) : Int) == 0) = true from rfl]
  rw [← p8]
  refine a_queue O8 A8 K4 S4 fun h9 μ9 ρ9 co9 oa9 oc9 O9 W9 hco9 => ?_
  simp only [oB_some, bC_true, bC_false, vInt_int, vBool_bool, vStr_string, vPtr_pointer, vSl_slice, vMap_map, vFun_func, vAgg_agg, vTup_tuple, vIfc_nil, vIfc_iface, lC_cons, lN_nil, aP_some, shO_none, shO_some, Option.isNone_none, Option.isNone_some, Bool.not_true, Bool.not_false]
  have F9 : Fra [] ρ ρ9 := fun c r hn hc => W9.fra c r (fun hm => by simp at hm; subst hm; rw [F8 _ r (by simp) hc] at hco9; cases hco9) (F8 c r hn hc)
  obtain ⟨μ10, ρ10, c10, O10, W10, hc10⟩ := w_block O9 W9.self (strs [sc, sa]) (n := 2) (sz := 1) rfl rfl
  refine equal_ok (y := [sc, sa]) (O10.sl (W10.at_ 1 _ _ rfl rfl)) (O10.sl (W10.at_ 0 _ _ rfl rfl)) (of_decide_eq_true (by kernel_rfl)) ?_
  rw [show decide (w4.queue = [sc, sa]) = true from by kernel_rfl]
  simp only [oB_some, bC_true, bC_false, vInt_int, vBool_bool, vStr_string, vPtr_pointer, vSl_slice, vMap_map, vFun_func, vAgg_agg, vTup_tuple, vIfc_nil, vIfc_iface, lC_cons, lN_nil, aP_some, shO_none, shO_some, Option.isNone_none, Option.isNone_some, Bool.not_true, Bool.not_false]
  exact hq _ _ _ O10 fun c r hn hc => (W10.tail hc10).fra c r (fun hm => by simp at hm; subst hm; rw [F8 _ r (by simp) hc] at hco9; cases hco9) (F9 c r hn hc)
end Go.Proofs.YtgdkekdedgkglaaDoor
end

section
/- Rules of walks, printed by a program of ours: group Act. -/
namespace Go.Proofs.YtgdkekdedgkglaaDoor
open Go.Abs
set_option maxRecDepth 100000
attribute [local irreducible] kFn kUnit EvQ unitAt
end Go.Proofs.YtgdkekdedgkglaaDoor
end

section
/- Rules of walks, printed by a program of ours: group ARef. -/
namespace Go.Proofs.YtgdkekdedgkglaaDoor
open Go.Abs
set_option maxRecDepth 100000
end Go.Proofs.YtgdkekdedgkglaaDoor
end

section
/- Layer 13: kinds, numbers and words. -/
namespace Go.Proofs.YtgdkekdedgkglaaDoor
open Go.Abs Go.Abs.Fo
set_option maxRecDepth 100000
attribute [local irreducible] unitAt EvQ
variable {h : AW} {μ : Paint} {ρ : Store} {Q : Value → AW → Prop}

theorem wrap8 {n : Nat} (hn : n < 256) : IntKind.wrap .u8 (n : Int) = (n : Int) := by
  unfold IntKind.wrap
  simp [IntKind.signed, IntKind.bits]
  omega
end Go.Proofs.YtgdkekdedgkglaaDoor
end

section
/- Rules of walks, printed by a program of ours: group AStr. -/
namespace Go.Proofs.YtgdkekdedgkglaaDoor
open Go.Abs
set_option maxRecDepth 100000
attribute [local irreducible] kFn kUnit EvQ unitAt
theorem r_strconv_Atoi {s1 : ByteArray} {h : AW} {Q : Value → AW → Prop} (H : EvQ P f_strconv_Atoi_78 [Value.string s1] h fun v2 h3 => vTup v2 fun l4 => lC l4 fun v5 l6 => vInt IntKind.i64 v5 fun n7 =>
  lC l6 fun v8 l9 => vIfc v8 (lN l9 (Q (Value.tuple (Array.mk [Value.int IntKind.i64 n7, Value.nilIface])) h3)) fun m10 v11 => lN l9 (EvQ P f_strconv_toError [Value.string (ByteArray.mk #[65,
  116, 111, 105]), Value.string s1, Value.int IntKind.i64 0, Value.int IntKind.i64 0, Value.iface m10 v11] h3 fun v12 h13 => vIfc v12 (Q (Value.tuple (Array.mk [Value.int
  IntKind.i64 n7, Value.nilIface])) h13) fun m14 v15 => Q (Value.tuple (Array.mk [Value.int IntKind.i64 n7, Value.iface m14 v15])) h13)) : EvQ P f_strconv_Atoi [Value.string s1] h Q := fn_ok
  (n := 400) (ann := annOf []) (Eq.mp (by kernel_rfl) H)
theorem r_strconv_Atoi_78 {s1 : ByteArray} {h : AW} {Q : Value → AW → Prop} (H : bC (decide (0 < (↑(ByteArray.size s1) : Int))) (bC (decide ((↑(ByteArray.size s1) : Int) < 19)) (oB (natIdx 0
  (ByteArray.size s1)) fun m2 => oB (bAt s1 m2) fun n3 => bC (n3 == 45) (oB (natBnd 1 (ByteArray.size s1)) fun m4 => bC (decide ((↑(ByteArray.size (bSub s1 m4 (ByteArray.size s1)))
  : Int) < 1)) (Q (Value.tuple (Array.mk [Value.int IntKind.i64 0, Value.iface ty_strconv_Error (Value.int IntKind.i64 2)])) h) (unitAt P f_strconv_Atoi_78 8 [0, 5] [Value.string (bSub s1 m4
  (ByteArray.size s1)), Value.string s1] h Q)) (oB (natIdx 0 (ByteArray.size s1)) fun m5 => oB (bAt s1 m5) fun n6 => bC (n6 == 43) (oB (natBnd 1 (ByteArray.size s1)) fun m7 => bC
  (decide ((↑(ByteArray.size (bSub s1 m7 (ByteArray.size s1))) : Int) < 1)) (Q (Value.tuple (Array.mk [Value.int IntKind.i64 0, Value.iface ty_strconv_Error (Value.int IntKind.i64 2)])) h)
  (unitAt P f_strconv_Atoi_78 8 [0, 5] [Value.string (bSub s1 m7 (ByteArray.size s1)), Value.string s1] h Q)) (unitAt P f_strconv_Atoi_78 8 [0, 5] [Value.string s1, Value.string s1] h Q))) (EvQ P f_strconv_ParseInt
  [Value.string s1, Value.int IntKind.i64 10, Value.int IntKind.i64 0] h fun v8 h9 => vTup v8 fun l10 => lC l10 fun v11 l12 => vInt IntKind.i64 v11 fun n13 => lC l12 fun v14 l15 =>
  vIfc v14 (lN l15 (Q (Value.tuple (Array.mk [Value.int IntKind.i64 n13, Value.nilIface])) h9)) fun m16 v17 => lN l15 (Q (Value.tuple (Array.mk [Value.int IntKind.i64 n13,
  Value.iface m16 v17])) h9))) (EvQ P f_strconv_ParseInt [Value.string s1, Value.int IntKind.i64 10, Value.int IntKind.i64 0] h fun v18 h19 => vTup v18 fun l20 => lC l20 fun v21 l22 => vInt
  IntKind.i64 v21 fun n23 => lC l22 fun v24 l25 => vIfc v24 (lN l25 (Q (Value.tuple (Array.mk [Value.int IntKind.i64 n23, Value.nilIface])) h19)) fun m26 v27 => lN l25 (Q
  (Value.tuple (Array.mk [Value.int IntKind.i64 n23, Value.iface m26 v27])) h19))) : EvQ P f_strconv_Atoi_78 [Value.string s1] h Q := fn_ok (n := 400) (ann := annOf [(8, [0, 5]), (10, [5, 6,
  47, 48, 49])]) (Eq.mp (by kernel_rfl) H)
theorem r_strconv_Atoi_78_8 {s1 : ByteArray} {s2 : ByteArray} {h : AW} {Q : Value → AW → Prop} (H : oP (convA P h ty_string ty_sl_uint8 (Value.string s1)) fun v3 h4 => vSl v3 fun p5 m6 m7 => unitAt P
  f_strconv_Atoi_78 10 [5, 6, 47, 48, 49] [Value.string s2, Value.int IntKind.i64 0, Value.slice p5 m6 m7, Value.int IntKind.i64 (↑m6 : Int), Value.int IntKind.i64 0] h4 Q) : unitAt P f_strconv_Atoi_78 8
  [0, 5] [Value.string s1, Value.string s2] h Q := unit_ok (n := 400) (ann := annOf [(8, [0, 5]), (10, [5, 6, 47, 48, 49])]) (Eq.mp (by kernel_rfl) H)
theorem r_strconv_Atoi_78_10 {s1 : ByteArray} {n2 : Int} {p3 : Option Addr} {m4 : Nat} {m5 : Nat} {n6 : Int} {n7 : Int} {h : AW} {Q : Value → AW → Prop} (H : bC (decide (n7 < n6)) (aP p3 fun
  m8 m9 => oB (natIdx n7 m4) fun m10 => oB (AW.rd h m8 (m9 + m10 * 1)) fun v11 => vInt IntKind.u8 v11 fun n12 => bC (decide (IntKind.wrap IntKind.u8 (n12 - 48) > 9)) (Q
  (Value.tuple (Array.mk [Value.int IntKind.i64 0, Value.iface ty_strconv_Error (Value.int IntKind.i64 2)])) h) (unitAt P f_strconv_Atoi_78 10 [5, 6, 47, 48, 49] [Value.string s1, Value.int IntKind.i64
  (IntKind.wrap IntKind.i64 (IntKind.wrap IntKind.i64 (n2 * 10) + IntKind.wrap IntKind.i64 (IntKind.wrap IntKind.u8 (n12 - 48)))), Value.slice p3 m4 m5, Value.int IntKind.i64 n6,
  Value.int IntKind.i64 (IntKind.wrap IntKind.i64 (n7 + 1))] h Q)) (oB (natIdx 0 (ByteArray.size s1)) fun m13 => oB (bAt s1 m13) fun n14 => bC (n14 == 45) (Q (Value.tuple (Array.mk
  [Value.int IntKind.i64 (IntKind.wrap IntKind.i64 (0 - n2)), Value.nilIface])) h) (Q (Value.tuple (Array.mk [Value.int IntKind.i64 n2, Value.nilIface])) h))) : unitAt P f_strconv_Atoi_78 10
  [5, 6, 47, 48, 49] [Value.string s1, Value.int IntKind.i64 n2, Value.slice p3 m4 m5, Value.int IntKind.i64 n6, Value.int IntKind.i64 n7] h Q := unit_ok (n := 400) (ann := annOf
  [(8, [0, 5]), (10, [5, 6, 47, 48, 49])]) (Eq.mp (by kernel_rfl) H)
end Go.Proofs.YtgdkekdedgkglaaDoor
end

section
/- Numbers in decimal digits, made by the library. -/
namespace Go.Proofs.YtgdkekdedgkglaaDoor
open Go.Abs Go.Abs.Fo
set_option maxRecDepth 100000
attribute [local irreducible] unitAt EvQ
variable {h : AW} {μ : Paint} {ρ : Store} {Q : Value → AW → Prop}
end Go.Proofs.YtgdkekdedgkglaaDoor
end

section
/- Numbers in decimal digits: those of three and four digits. -/
namespace Go.Proofs.YtgdkekdedgkglaaDoor
open Go.Abs Go.Abs.Fo
set_option maxRecDepth 100000
attribute [local irreducible] unitAt EvQ
variable {h : AW} {μ : Paint} {ρ : Store} {Q : Value → AW → Prop}
end Go.Proofs.YtgdkekdedgkglaaDoor
end

section
/- Numbers out of words: where they may be had. -/
namespace Go.Proofs.YtgdkekdedgkglaaDoor
open Go.Abs Go.Abs.Fo
/-- Of these words a number is asked. -/
def Tbs (G : Str → Prop) (ρ : Store) : Prop :=
  ∀ {h : AW} {μ : Paint} {ρ' : Store} {s : Str} {Q : Value → AW → Prop}, Own h μ ρ' → Fra [] ρ ρ' → G s → RdQ Q ρ' (.int .i64 (numM s)) → EvQ P f_action_number [.string s] h Q
theorem Tbs.keep {G : Str → Prop} {ρ ρ' : Store} (T : Tbs G ρ) (F : Fra [] ρ ρ') : Tbs G ρ' := fun O F' => T O (F.trans F')
theorem Tbs.none {ρ : Store} : Tbs (fun _ => False) ρ := fun _ _ g => g.elim
end Go.Proofs.YtgdkekdedgkglaaDoor
end

section
/- Numbers read from decimal digits by the library; a repeat's number. -/
namespace Go.Proofs.YtgdkekdedgkglaaDoor
open Go.Abs Go.Abs.Fo
set_option maxRecDepth 100000
attribute [local irreducible] unitAt EvQ
variable {h : AW} {μ : Paint} {ρ : Store} {Q : Value → AW → Prop}
/-- A string's bytes in a slice of their own. -/
theorem w_conv (O : Own h μ ρ) {ρ0 : Store} {ns : List Nat} {rs : List Res} (W : Pcs ρ0 ρ ns rs) {s : Str} {f : Value → AW → Prop}
    (H : ∀ h' μ' ρ' c a, Own h' μ' ρ' → Pcs ρ0 ρ' (c :: ns) (.sl a s.size 1 (ofBytes s.data.toList) :: rs) → ρ0 c = none → f (.slice a s.size s.size) h') : oP (convA P h ty_string ty_sl_uint8 (.string s)) f := by
  obtain ⟨c, hc⟩ := O.fresh
  have ha : allOne (ofBytes s.data.toList) = true := allOne_of fun v hv => by
    obtain ⟨b, _, rfl⟩ := List.mem_map.1 hv
    rfl
  have hlen : (ofBytes s.data.toList).length = s.size * 1 := by unfold ofBytes; rw [List.length_map, Nat.mul_one]; rfl
  obtain ⟨h', e, M, C⟩ := newRow_ok (h := h) (μ := μ) (c := c) (S := (· = c)) ha hlen
  unfold convA
  rw [ti_ty_string, ti_ty_sl_uint8]
  simp only
  rw [ti_ty_uint8]
  simp only
  rw [e]
  exact H _ _ _ c _ (O.step (r := .sl (some ⟨h.next, 0, none⟩) s.size 1 (ofBytes s.data.toList)) C M) (W.new hc _) (W.not0 hc)
theorem numL_step {l : List UInt8} {b : UInt8} {n v : Nat} (h : numL (b :: l) n = some v) : 48 ≤ b.toNat ∧ b.toNat ≤ 57 ∧ numL l (10 * n + (b.toNat - 48)) = some v := by
  rw [numL] at h
  split at h
  · cases h
  · rename_i hb
    exact ⟨by omega, by omega, h⟩
theorem wrap8s {b : Nat} (h1 : 48 ≤ b) (h2 : b ≤ 255) : IntKind.wrap .u8 ((b : Int) - 48) = ((b - 48 : Nat) : Int) := by
  rw [show (b : Int) - 48 = ((b - 48 : Nat) : Int) from by omega, wrap8 (by omega)]
theorem atoi_loop {s : Str} (h1 : 1 ≤ s.size) (h2 : s.size < 19) {v : Nat} (hv0 : numL s.data.toList 0 = some v) (hq : RdQ Q ρ (.tuple ⟨[.int .i64 (v : Int), .nilIface]⟩)) :
    ∀ (d k n : Nat) {h : AW} {μ : Paint} {ρ' : Store} {c : Nat} {a : Option Addr}, s.size - k = d → k ≤ s.size → n < 10 ^ k → numL (s.data.toList.drop k) n = some v → Own h μ ρ' → Pcs ρ ρ' [c] [.sl a s.size 1 (ofBytes s.data.toList)] → ρ c = none →
      unitAt P f_strconv_Atoi_78 10 [5, 6, 47, 48, 49] [.string s, .int .i64 (n : Int), .slice a s.size s.size, .int .i64 (s.size : Int), .int .i64 (k : Int)] h Q := by
  have hlen : s.data.toList.length = s.size := rfl
  intro d
  induction d with
  | zero =>
    intro k n h μ ρ' c a hd hk hn hv O W hc
    refine r_strconv_Atoi_78_10 ?_
    rw [geI (by omega)]
    simp only [oB_some, bC_true, bC_false, vInt_int, vBool_bool, vStr_string, vPtr_pointer, vSl_slice, vMap_map, vFun_func, vAgg_agg, vTup_tuple, vIfc_nil, vIfc_iface, lC_cons, lN_nil, aP_some, shO_none, shO_some, Option.isNone_none, Option.isNone_some, Bool.not_true, Bool.not_false]
    rw [List.drop_eq_nil_of_le (by omega), numL] at hv
    simp only [Option.some.injEq] at hv
    subst hv
    rw [show natIdx 0 s.size = some 0 from natIdx_eq (j := 0) (by omega)]
    simp only [oB_some, bC_true, bC_false, vInt_int, vBool_bool, vStr_string, vPtr_pointer, vSl_slice, vMap_map, vFun_func, vAgg_agg, vTup_tuple, vIfc_nil, vIfc_iface, lC_cons, lN_nil, aP_some, shO_none, shO_some, Option.isNone_none, Option.isNone_some, Bool.not_true, Bool.not_false]
    have h0 : 0 < s.data.toList.length := by omega
    have hb : bAt s 0 = some ((s.data.toList[0]).toNat : Int) := by
      unfold bAt
      rw [Array.getElem?_eq_getElem (by exact h0)]
      simp
    refine oB_bind hb ?_
    have hd0 : 48 ≤ (s.data.toList[0]).toNat := by
      have : s.data.toList = s.data.toList[0] :: s.data.toList.drop 1 := by rw [← List.drop_eq_getElem_cons h0, List.drop_zero]
      rw [this] at hv0
      exact (numL_step hv0).1
    rw [show ((((s.data.toList[0]).toNat : Nat) : Int) == 45) = false from by rw [beq_eq_false_iff_ne]; omega]
    simp only [oB_some, bC_true, bC_false, vInt_int, vBool_bool, vStr_string, vPtr_pointer, vSl_slice, vMap_map, vFun_func, vAgg_agg, vTup_tuple, vIfc_nil, vIfc_iface, lC_cons, lN_nil, aP_some, shO_none, shO_some, Option.isNone_none, Option.isNone_some, Bool.not_true, Bool.not_false]
    exact hq _ _ _ O (W.fra0 fun c' hc' => by simp at hc'; rw [hc']; exact hc)
  | succ d ih =>
    intro k n h μ ρ' c a hd hk hn hv O W hc
    have hlt : k < s.size := by omega
    have hlt' : k < s.data.toList.length := by omega
    refine r_strconv_Atoi_78_10 ?_
    rw [ltI hlt]
    simp only [oB_some, bC_true, bC_false, vInt_int, vBool_bool, vStr_string, vPtr_pointer, vSl_slice, vMap_map, vFun_func, vAgg_agg, vTup_tuple, vIfc_nil, vIfc_iface, lC_cons, lN_nil, aP_some, shO_none, shO_some, Option.isNone_none, Option.isNone_some, Bool.not_true, Bool.not_false]
    rw [List.drop_eq_getElem_cons hlt'] at hv
    have hg : (ofBytes s.data.toList)[k]? = some (.int .u8 ((s.data.toList[k]).toNat : Int)) := by
      unfold ofBytes
      rw [List.getElem?_map, List.getElem?_eq_getElem hlt']; rfl
    obtain ⟨b1, b2, hv2⟩ := numL_step hv
    refine (w_sl O W 0 rfl).i1 rfl (by unfold ofBytes; rw [List.length_map]; rfl) hg ?_
    simp only [oB_some, bC_true, bC_false, vInt_int, vBool_bool, vStr_string, vPtr_pointer, vSl_slice, vMap_map, vFun_func, vAgg_agg, vTup_tuple, vIfc_nil, vIfc_iface, lC_cons, lN_nil, aP_some, shO_none, shO_some, Option.isNone_none, Option.isNone_some, Bool.not_true, Bool.not_false]
    rw [wrap8s b1 (by omega)]
    rw [show decide ((((s.data.toList[k]).toNat - 48 : Nat) : Int) > 9) = false from decide_eq_false (by omega)]
    simp only [oB_some, bC_true, bC_false, vInt_int, vBool_bool, vStr_string, vPtr_pointer, vSl_slice, vMap_map, vFun_func, vAgg_agg, vTup_tuple, vIfc_nil, vIfc_iface, lC_cons, lN_nil, aP_some, shO_none, shO_some, Option.isNone_none, Option.isNone_some, Bool.not_true, Bool.not_false]
    have hp : 10 ^ (k + 1) ≤ 10 ^ 18 := Nat.pow_le_pow_right (by omega) (by omega)
    rw [Nat.pow_succ] at hp
    have hp2 : 10 ^ 18 = 1000000000000000000 := rfl
    have hn2 : n * 10 + 9 < 1000000000000000000 := by omega
    rw [Go.Abs.wrap_small (n := (n : Int) * 10) (by omega) (by omega), wrap_sm (n := (((s.data.toList[k]).toNat - 48 : Nat) : Int)) (by omega) (by omega), Go.Abs.wrap_small (n := (n : Int) * 10 + (((s.data.toList[k]).toNat - 48 : Nat) : Int)) (by omega) (by omega), wrapS (by omega)]
    rw [show (n : Int) * 10 + (((s.data.toList[k]).toNat - 48 : Nat) : Int) = ((10 * n + ((s.data.toList[k]).toNat - 48) : Nat) : Int) from by omega]
    exact ih (k + 1) _ (by omega) (by omega) (by rw [Nat.pow_succ]; omega) hv2 O W hc
theorem atoi_ok (O : Own h μ ρ) {s : Str} (h1 : 1 ≤ s.size) (h2 : s.size < 19) {v : Nat} (hv : numL s.data.toList 0 = some v) (hq : RdQ Q ρ (.tuple ⟨[.int .i64 (v : Int), .nilIface]⟩)) : EvQ P f_strconv_Atoi [.string s] h Q := by
  refine r_strconv_Atoi (r_strconv_Atoi_78 ?_)
  rw [show decide ((0 : Int) < (s.size : Int)) = true from decide_eq_true (by omega), show decide ((s.size : Int) < 19) = true from decide_eq_true (by omega)]
  simp only [oB_some, bC_true, bC_false, vInt_int, vBool_bool, vStr_string, vPtr_pointer, vSl_slice, vMap_map, vFun_func, vAgg_agg, vTup_tuple, vIfc_nil, vIfc_iface, lC_cons, lN_nil, aP_some, shO_none, shO_some, Option.isNone_none, Option.isNone_some, Bool.not_true, Bool.not_false]
  rw [show natIdx 0 s.size = some 0 from natIdx_eq (j := 0) (by omega)]
  simp only [oB_some, bC_true, bC_false, vInt_int, vBool_bool, vStr_string, vPtr_pointer, vSl_slice, vMap_map, vFun_func, vAgg_agg, vTup_tuple, vIfc_nil, vIfc_iface, lC_cons, lN_nil, aP_some, shO_none, shO_some, Option.isNone_none, Option.isNone_some, Bool.not_true, Bool.not_false]
  have h0 : 0 < s.data.toList.length := h1
  have hb : bAt s 0 = some ((s.data.toList[0]).toNat : Int) := by
    unfold bAt
    rw [Array.getElem?_eq_getElem (by exact h0)]
    simp
  have hd0 : 48 ≤ (s.data.toList[0]).toNat := by
    have : s.data.toList = s.data.toList[0] :: s.data.toList.drop 1 := by rw [← List.drop_eq_getElem_cons h0, List.drop_zero]
    rw [this] at hv
    exact (numL_step hv).1
  refine oB_bind hb ?_
  rw [show ((((s.data.toList[0]).toNat : Nat) : Int) == 45) = false from by rw [beq_eq_false_iff_ne]; omega]
  simp only [oB_some, bC_true, bC_false, vInt_int, vBool_bool, vStr_string, vPtr_pointer, vSl_slice, vMap_map, vFun_func, vAgg_agg, vTup_tuple, vIfc_nil, vIfc_iface, lC_cons, lN_nil, aP_some, shO_none, shO_some, Option.isNone_none, Option.isNone_some, Bool.not_true, Bool.not_false]
  refine oB_bind hb ?_
  rw [show ((((s.data.toList[0]).toNat : Nat) : Int) == 43) = false from by rw [beq_eq_false_iff_ne]; omega]
  simp only [oB_some, bC_true, bC_false, vInt_int, vBool_bool, vStr_string, vPtr_pointer, vSl_slice, vMap_map, vFun_func, vAgg_agg, vTup_tuple, vIfc_nil, vIfc_iface, lC_cons, lN_nil, aP_some, shO_none, shO_some, Option.isNone_none, Option.isNone_some, Bool.not_true, Bool.not_false]
  refine r_strconv_Atoi_78_8 ?_
  refine w_conv O p00 fun h5 μ2 ρ2 c a O2 W2 hc => ?_
  simp only [oB_some, bC_true, bC_false, vInt_int, vBool_bool, vStr_string, vPtr_pointer, vSl_slice, vMap_map, vFun_func, vAgg_agg, vTup_tuple, vIfc_nil, vIfc_iface, lC_cons, lN_nil, aP_some, shO_none, shO_some, Option.isNone_none, Option.isNone_some, Bool.not_true, Bool.not_false]
  refine atoi_loop h1 h2 hv (fun h3 μ3 ρ3 O3 F3 => ?_) _ 0 0 rfl (by omega) (by simp) hv O2 W2 hc
  simp only [oB_some, bC_true, bC_false, vInt_int, vBool_bool, vStr_string, vPtr_pointer, vSl_slice, vMap_map, vFun_func, vAgg_agg, vTup_tuple, vIfc_nil, vIfc_iface, lC_cons, lN_nil, aP_some, shO_none, shO_some, Option.isNone_none, Option.isNone_some, Bool.not_true, Bool.not_false]
  exact hq _ _ _ O3 F3
end Go.Proofs.YtgdkekdedgkglaaDoor
end

section
/- Rules of walks, printed by a program of ours: group ALaw. -/
namespace Go.Proofs.YtgdkekdedgkglaaDoor
open Go.Abs
set_option maxRecDepth 100000
theorem r_brickyardlaw20_SchedFlows {n1 : Int} {p2 : Option Addr} {m3 : Nat} {m4 : Nat} {p5 : Option Addr} {m6 : Nat} {m7 : Nat} {p8 : Option Addr} {m9 : Nat} {m10 : Nat} {h : AW} {Q : Value → AW →
  Prop} (H : EvQ P f_brickyardlaw20_works [] h fun v11 h12 => vBool v11 fun b13 => bC (!b13) (Q (Value.bool false) h12) (bC (decide ((↑m3 : Int) > 24)) (Q (Value.bool true) h12) (bC (decide ((↑m6 :
  Int) > 40)) (Q (Value.bool true) h12) (EvQ P f_sched_New [Value.int IntKind.i64 n1] h12 fun v14 h15 => vPtr v14 fun p16 => bC (Option.isNone p16) (Q (Value.bool false) h15) (oP
  (makeSliceV P h15 ty_sl_int (Value.int IntKind.i64 (↑m3 : Int)) (Value.int IntKind.i64 (↑m3 : Int))) fun v17 h18 => vSl v17 fun p19 m20 m21 => unitAt P f_brickyardlaw20_SchedFlows 13 [1, 2, 3, 9, 10, 11,
  12, 13, 55, 56, 57] [Value.slice p2 m3 m4, Value.slice p5 m6 m7, Value.slice p8 m9 m10, Value.int IntKind.i64 (↑m3 : Int), Value.pointer p16, Value.int IntKind.i64 (if 64 < if 1
  > n1 then 1 else n1 then 64 else if 1 > n1 then 1 else n1), Value.slice p19 m20 m21, Value.int IntKind.i64 0, Value.slice p2 m3 m4, Value.int IntKind.i64 (↑m3 : Int), Value.int
  IntKind.i64 0] h18 Q))))) : EvQ P f_brickyardlaw20_SchedFlows [Value.int IntKind.i64 n1, Value.slice p2 m3 m4, Value.slice p5 m6 m7, Value.slice p8 m9 m10] h Q := fn_ok (n := 400) (ann := annOf [(13,
  [1, 2, 3, 9, 10, 11, 12, 13, 55, 56, 57]), (18, [1, 2, 3, 9, 10, 11, 12, 13, 14, 15, 55, 56, 57, 66, 67]), (28, [1, 3, 9, 10, 11, 12, 13, 92, 93, 94]), (34, [1, 3, 9, 10, 11, 12,
  13, 19]), (42, [1, 3, 9, 10, 11, 12, 13, 19, 20]), (57, [1, 3, 9, 10, 11, 12, 13, 19, 21, 26, 211, 212, 213]), (66, [1, 3, 9, 10, 11, 12, 13, 19, 30, 255, 256, 257]), (74, [1,
  10, 276, 277])]) (Eq.mp (by kernel_rfl) H)
theorem r_brickyardlaw20_SchedFlows_13 {p1 : Option Addr} {m2 : Nat} {m3 : Nat} {p4 : Option Addr} {m5 : Nat} {m6 : Nat} {p7 : Option Addr} {m8 : Nat} {m9 : Nat} {n10 : Int} {p11 : Option Addr} {n12 :
  Int} {p13 : Option Addr} {m14 : Nat} {m15 : Nat} {n16 : Int} {p17 : Option Addr} {m18 : Nat} {m19 : Nat} {n20 : Int} {n21 : Int} {h : AW} {Q : Value → AW → Prop} (H : bC (decide
  (n21 < n20)) (aP p17 fun m22 m23 => oB (natIdx n21 m18) fun m24 => oB (AW.rd h m22 (m23 + m24 * 1)) fun v25 => vSl v25 fun p26 m27 m28 => bC (decide ((↑m27 : Int) > 8)) (Q
  (Value.bool true) h) (unitAt P f_brickyardlaw20_SchedFlows 18 [1, 2, 3, 9, 10, 11, 12, 13, 14, 15, 55, 56, 57, 66, 67] [Value.slice p1 m2 m3, Value.slice p4 m5 m6, Value.slice p7 m8 m9, Value.int
  IntKind.i64 n10, Value.pointer p11, Value.int IntKind.i64 n12, Value.slice p13 m14 m15, Value.int IntKind.i64 n16, Value.int IntKind.i64 n21, Value.slice p26 m27 m28, Value.slice
  p17 m18 m19, Value.int IntKind.i64 n20, Value.int IntKind.i64 n21, Value.int IntKind.i64 (↑m27 : Int), Value.int IntKind.i64 0] h Q)) (unitAt P f_brickyardlaw20_SchedFlows 28 [1, 3, 9, 10, 11, 12, 13,
  92, 93, 94] [Value.slice p1 m2 m3, Value.slice p7 m8 m9, Value.int IntKind.i64 n10, Value.pointer p11, Value.int IntKind.i64 n12, Value.slice p13 m14 m15, Value.int IntKind.i64
  n16, Value.slice p4 m5 m6, Value.int IntKind.i64 (↑m5 : Int), Value.int IntKind.i64 0] h Q)) : unitAt P f_brickyardlaw20_SchedFlows 13 [1, 2, 3, 9, 10, 11, 12, 13, 55, 56, 57] [Value.slice p1 m2 m3,
  Value.slice p4 m5 m6, Value.slice p7 m8 m9, Value.int IntKind.i64 n10, Value.pointer p11, Value.int IntKind.i64 n12, Value.slice p13 m14 m15, Value.int IntKind.i64 n16,
  Value.slice p17 m18 m19, Value.int IntKind.i64 n20, Value.int IntKind.i64 n21] h Q := unit_ok (n := 400) (ann := annOf [(13, [1, 2, 3, 9, 10, 11, 12, 13, 55, 56, 57]), (18, [1,
  2, 3, 9, 10, 11, 12, 13, 14, 15, 55, 56, 57, 66, 67]), (28, [1, 3, 9, 10, 11, 12, 13, 92, 93, 94]), (34, [1, 3, 9, 10, 11, 12, 13, 19]), (42, [1, 3, 9, 10, 11, 12, 13, 19, 20]),
  (57, [1, 3, 9, 10, 11, 12, 13, 19, 21, 26, 211, 212, 213]), (66, [1, 3, 9, 10, 11, 12, 13, 19, 30, 255, 256, 257]), (74, [1, 10, 276, 277])]) (Eq.mp (by kernel_rfl) H)
theorem r_brickyardlaw20_SchedFlows_18 {p1 : Option Addr} {m2 : Nat} {m3 : Nat} {p4 : Option Addr} {m5 : Nat} {m6 : Nat} {p7 : Option Addr} {m8 : Nat} {m9 : Nat} {n10 : Int} {p11 : Option Addr} {n12 :
  Int} {p13 : Option Addr} {m14 : Nat} {m15 : Nat} {n16 : Int} {n17 : Int} {p18 : Option Addr} {m19 : Nat} {m20 : Nat} {p21 : Option Addr} {m22 : Nat} {m23 : Nat} {n24 : Int} {n25
  : Int} {n26 : Int} {n27 : Int} {h : AW} {Q : Value → AW → Prop} (H : bC (decide (n27 < n26)) (EvQ P f_slices_Clone_sl_int_int [Value.slice p18 m19 m20] h fun v28 h29 => vSl v28 fun p30 m31 m32 => aP
  p30 fun m33 m34 => oB (natIdx n27 m31) fun m35 => oB (AW.rd h29 m33 (m34 + m35 * 1)) fun v36 => vInt IntKind.i64 v36 fun n37 => bC (decide (n10 = 0)) False (aP p30 fun m38 m39 =>
  oB (natIdx n27 m31) fun m40 => oB (AW.wr h29 m38 (m39 + m40 * 1) (Value.int IntKind.i64 (Int.tmod (if 0 > n37 then 0 else n37) n10))) fun h41 => EvQ P f_slices_Clone_sl_sl_int_sl_int [Value.slice p1 m2 m3]
  h41 fun v42 h43 => vSl v42 fun p44 m45 m46 => aP p44 fun m47 m48 => oB (natIdx n17 m45) fun m49 => oB (AW.wr h43 m47 (m48 + m49 * 1) (Value.slice p30 m31 m32)) fun h50 => unitAt
  P f_brickyardlaw20_SchedFlows 18 [1, 2, 3, 9, 10, 11, 12, 13, 14, 15, 55, 56, 57, 66, 67] [Value.slice p44 m45 m46, Value.slice p4 m5 m6, Value.slice p7 m8 m9, Value.int IntKind.i64 n10, Value.pointer
  p11, Value.int IntKind.i64 n12, Value.slice p13 m14 m15, Value.int IntKind.i64 (IntKind.wrap IntKind.i64 (n16 + 1)), Value.int IntKind.i64 n17, Value.slice p30 m31 m32,
  Value.slice p21 m22 m23, Value.int IntKind.i64 n24, Value.int IntKind.i64 n25, Value.int IntKind.i64 n26, Value.int IntKind.i64 (IntKind.wrap IntKind.i64 (n27 + 1))] h50 Q))
  (unitAt P f_brickyardlaw20_SchedFlows 13 [1, 2, 3, 9, 10, 11, 12, 13, 55, 56, 57] [Value.slice p1 m2 m3, Value.slice p4 m5 m6, Value.slice p7 m8 m9, Value.int IntKind.i64 n10, Value.pointer p11,
  Value.int IntKind.i64 n12, Value.slice p13 m14 m15, Value.int IntKind.i64 n16, Value.slice p21 m22 m23, Value.int IntKind.i64 n24, Value.int IntKind.i64 (IntKind.wrap IntKind.i64
  (n25 + 1))] h Q)) : unitAt P f_brickyardlaw20_SchedFlows 18 [1, 2, 3, 9, 10, 11, 12, 13, 14, 15, 55, 56, 57, 66, 67] [Value.slice p1 m2 m3, Value.slice p4 m5 m6, Value.slice p7 m8 m9, Value.int
  IntKind.i64 n10, Value.pointer p11, Value.int IntKind.i64 n12, Value.slice p13 m14 m15, Value.int IntKind.i64 n16, Value.int IntKind.i64 n17, Value.slice p18 m19 m20, Value.slice
  p21 m22 m23, Value.int IntKind.i64 n24, Value.int IntKind.i64 n25, Value.int IntKind.i64 n26, Value.int IntKind.i64 n27] h Q := unit_ok (n := 400) (ann := annOf [(13, [1, 2, 3,
  9, 10, 11, 12, 13, 55, 56, 57]), (18, [1, 2, 3, 9, 10, 11, 12, 13, 14, 15, 55, 56, 57, 66, 67]), (28, [1, 3, 9, 10, 11, 12, 13, 92, 93, 94]), (34, [1, 3, 9, 10, 11, 12, 13, 19]),
  (42, [1, 3, 9, 10, 11, 12, 13, 19, 20]), (57, [1, 3, 9, 10, 11, 12, 13, 19, 21, 26, 211, 212, 213]), (66, [1, 3, 9, 10, 11, 12, 13, 19, 30, 255, 256, 257]), (74, [1, 10, 276,
  277])]) (Eq.mp (by kernel_rfl) H)
theorem r_brickyardlaw20_SchedFlows_28 {p1 : Option Addr} {m2 : Nat} {m3 : Nat} {p4 : Option Addr} {m5 : Nat} {m6 : Nat} {n7 : Int} {p8 : Option Addr} {n9 : Int} {p10 : Option Addr} {m11 : Nat} {m12 :
  Nat} {n13 : Int} {p14 : Option Addr} {m15 : Nat} {m16 : Nat} {n17 : Int} {n18 : Int} {h : AW} {Q : Value → AW → Prop} (H : bC (decide (n18 < n17)) (aP p14 fun m19 m20 => oB
  (natIdx n18 m15) fun m21 => oB (AW.rd h m19 (m20 + m21 * 1)) fun v22 => vInt IntKind.i64 v22 fun n23 => bC (decide (n7 > 0)) (bC (decide (n7 = 0)) False (EvQ P f_brickyardlaw20_name [Value.int
  IntKind.i64 (Int.tmod (if 0 > n23 then 0 else n23) n7)] h fun v24 h25 => vStr v24 fun s26 => EvQ P f_p_sched_Sched_Want [Value.pointer p8, Value.slice (some (Addr.mk (AW.next h25) 0 none)) 1 1]
  (AW.addVar h25 [Value.string s26]) fun v27 h28 => vInt IntKind.i64 v27 fun n29 => bC (n29 != 0) (Q (Value.bool false) h28) (unitAt P f_brickyardlaw20_SchedFlows 28 [1, 3, 9, 10, 11, 12, 13, 92, 93, 94]
  [Value.slice p1 m2 m3, Value.slice p4 m5 m6, Value.int IntKind.i64 n7, Value.pointer p8, Value.int IntKind.i64 n9, Value.slice p10 m11 m12, Value.int IntKind.i64 n13, Value.slice
  p14 m15 m16, Value.int IntKind.i64 n17, Value.int IntKind.i64 (IntKind.wrap IntKind.i64 (n18 + 1))] h28 Q))) (unitAt P f_brickyardlaw20_SchedFlows 28 [1, 3, 9, 10, 11, 12, 13, 92, 93, 94] [Value.slice
  p1 m2 m3, Value.slice p4 m5 m6, Value.int IntKind.i64 n7, Value.pointer p8, Value.int IntKind.i64 n9, Value.slice p10 m11 m12, Value.int IntKind.i64 n13, Value.slice p14 m15 m16,
  Value.int IntKind.i64 n17, Value.int IntKind.i64 (IntKind.wrap IntKind.i64 (n18 + 1))] h Q)) (unitAt P f_brickyardlaw20_SchedFlows 34 [1, 3, 9, 10, 11, 12, 13, 19] [Value.slice p1 m2 m3, Value.slice p4
  m5 m6, Value.int IntKind.i64 n7, Value.pointer p8, Value.int IntKind.i64 n9, Value.slice p10 m11 m12, Value.int IntKind.i64 n13, Value.int IntKind.i64 0] h Q)) : unitAt P f_brickyardlaw20_SchedFlows 28
  [1, 3, 9, 10, 11, 12, 13, 92, 93, 94] [Value.slice p1 m2 m3, Value.slice p4 m5 m6, Value.int IntKind.i64 n7, Value.pointer p8, Value.int IntKind.i64 n9, Value.slice p10 m11 m12,
  Value.int IntKind.i64 n13, Value.slice p14 m15 m16, Value.int IntKind.i64 n17, Value.int IntKind.i64 n18] h Q := unit_ok (n := 400) (ann := annOf [(13, [1, 2, 3, 9, 10, 11, 12,
  13, 55, 56, 57]), (18, [1, 2, 3, 9, 10, 11, 12, 13, 14, 15, 55, 56, 57, 66, 67]), (28, [1, 3, 9, 10, 11, 12, 13, 92, 93, 94]), (34, [1, 3, 9, 10, 11, 12, 13, 19]), (42, [1, 3, 9,
  10, 11, 12, 13, 19, 20]), (57, [1, 3, 9, 10, 11, 12, 13, 19, 21, 26, 211, 212, 213]), (66, [1, 3, 9, 10, 11, 12, 13, 19, 30, 255, 256, 257]), (74, [1, 10, 276, 277])]) (Eq.mp (by
  kernel_rfl) H)
theorem r_brickyardlaw20_SchedFlows_34 {p1 : Option Addr} {m2 : Nat} {m3 : Nat} {p4 : Option Addr} {m5 : Nat} {m6 : Nat} {n7 : Int} {p8 : Option Addr} {n9 : Int} {p10 : Option Addr} {m11 : Nat} {m12 :
  Nat} {n13 : Int} {n14 : Int} {h : AW} {Q : Value → AW → Prop} (H : EvQ P f_p_sched_Sched_Over [Value.pointer p8] h fun v15 h16 => vBool v15 fun b17 => bC (!b17) (bC (decide (n14 > IntKind.wrap
  IntKind.i64 (IntKind.wrap IntKind.i64 (2 * IntKind.wrap IntKind.i64 (n7 + n13)) + 2))) (Q (Value.bool false) h16) (EvQ P f_p_sched_Sched_Stuck [Value.pointer p8] h16 fun v18 h19 => vBool v18 fun
  b20 => bC b20 (Q (Value.bool false) h19) (EvQ P f_p_sched_Sched_Fill [Value.pointer p8] h19 fun v21 h22 => vSl v21 fun p23 m24 m25 => bC (decide ((↑m5 : Int) > 0)) (bC (decide ((↑m5 : Int) = 0))
  False (aP p4 fun m26 m27 => oB (natIdx (Int.tmod n14 (↑m5 : Int)) m5) fun m28 => oB (AW.rd h22 m26 (m27 + m28 * 1)) fun v29 => vInt IntKind.i64 v29 fun n30 => unitAt P f_brickyardlaw20_SchedFlows 42
  [1, 3, 9, 10, 11, 12, 13, 19, 20] [Value.slice p1 m2 m3, Value.slice p4 m5 m6, Value.int IntKind.i64 n7, Value.pointer p8, Value.int IntKind.i64 n9, Value.slice p10 m11 m12,
  Value.int IntKind.i64 n13, Value.int IntKind.i64 n14, Value.int IntKind.i64 n30] h22 Q)) (unitAt P f_brickyardlaw20_SchedFlows 42 [1, 3, 9, 10, 11, 12, 13, 19, 20] [Value.slice p1 m2 m3, Value.slice p4
  m5 m6, Value.int IntKind.i64 n7, Value.pointer p8, Value.int IntKind.i64 n9, Value.slice p10 m11 m12, Value.int IntKind.i64 n13, Value.int IntKind.i64 n14, Value.int IntKind.i64
  0] h22 Q)))) (unitAt P f_brickyardlaw20_SchedFlows 74 [1, 10, 276, 277] [Value.slice p1 m2 m3, Value.pointer p8, Value.int IntKind.i64 n7, Value.int IntKind.i64 0] h16 Q)) : unitAt P f_brickyardlaw20_SchedFlows 34 [1, 3, 9,
  10, 11, 12, 13, 19] [Value.slice p1 m2 m3, Value.slice p4 m5 m6, Value.int IntKind.i64 n7, Value.pointer p8, Value.int IntKind.i64 n9, Value.slice p10 m11 m12, Value.int
  IntKind.i64 n13, Value.int IntKind.i64 n14] h Q := unit_ok (n := 400) (ann := annOf [(13, [1, 2, 3, 9, 10, 11, 12, 13, 55, 56, 57]), (18, [1, 2, 3, 9, 10, 11, 12, 13, 14, 15, 55,
  56, 57, 66, 67]), (28, [1, 3, 9, 10, 11, 12, 13, 92, 93, 94]), (34, [1, 3, 9, 10, 11, 12, 13, 19]), (42, [1, 3, 9, 10, 11, 12, 13, 19, 20]), (57, [1, 3, 9, 10, 11, 12, 13, 19,
  21, 26, 211, 212, 213]), (66, [1, 3, 9, 10, 11, 12, 13, 19, 30, 255, 256, 257]), (74, [1, 10, 276, 277])]) (Eq.mp (by kernel_rfl) H)
theorem r_brickyardlaw20_SchedFlows_42 {p1 : Option Addr} {m2 : Nat} {m3 : Nat} {p4 : Option Addr} {m5 : Nat} {m6 : Nat} {n7 : Int} {p8 : Option Addr} {n9 : Int} {p10 : Option Addr} {m11 : Nat} {m12 :
  Nat} {n13 : Int} {n14 : Int} {n15 : Int} {h : AW} {Q : Value → AW → Prop} (H : EvQ P f_p_sched_Sched_Pick [Value.pointer p8, Value.int IntKind.i64 n15] h fun v16 h17 => vTup v16 fun l18 => lC
  l18 fun v19 l20 => vStr v19 fun s21 => lC l20 fun v22 l23 => vBool v22 fun b24 => lN l23 (bC (!b24) (Q (Value.bool false) h17) (EvQ P f_p_sched_Sched_State [Value.pointer p8, Value.string s21]
  h17 fun v25 h26 => vInt IntKind.i64 v25 fun n27 => bC (n27 != 2) (Q (Value.bool false) h26) (oB (natBnd 1 (ByteArray.size s21)) fun m28 => EvQ P f_strconv_Atoi [Value.string (bSub s21 m28
  (ByteArray.size s21))] h26 fun v29 h30 => vTup v29 fun l31 => lC l31 fun v32 l33 => vInt IntKind.i64 v32 fun n34 => lC l33 fun v35 l36 => vIfc v35 (lN l36 (bC (decide (n34 < 0))
  (Q (Value.bool false) h30) (bC (decide (n34 ≥ n7)) (Q (Value.bool false) h30) (aP p10 fun m37 m38 => oB (natIdx n34 m11) fun m39 => oB (AW.rd h30 m37 (m38 + m39 * 1)) fun v40 =>
  vInt IntKind.i64 v40 fun n41 => aP p1 fun m42 m43 => oB (natIdx n34 m2) fun m44 => oB (AW.rd h30 m42 (m43 + m44 * 1)) fun v45 => vSl v45 fun p46 m47 m48 => bC (n41 == (↑m47 :
  Int)) (EvQ P f_p_sched_Sched_Done [Value.pointer p8, Value.string s21] h30 fun v49 h50 => vInt IntKind.i64 v49 fun n51 => bC (n51 != 0) (Q (Value.bool false) h50) (unitAt P f_brickyardlaw20_SchedFlows 34 [1, 3, 9, 10,
  11, 12, 13, 19] [Value.slice p1 m2 m3, Value.slice p4 m5 m6, Value.int IntKind.i64 n7, Value.pointer p8, Value.int IntKind.i64 n9, Value.slice p10 m11 m12, Value.int IntKind.i64
  n13, Value.int IntKind.i64 (IntKind.wrap IntKind.i64 (n14 + 1))] h50 Q)) (aP p1 fun m52 m53 => oB (natIdx n34 m2) fun m54 => oB (AW.rd h30 m52 (m53 + m54 * 1)) fun v55 => vSl v55
  fun p56 m57 m58 => aP p10 fun m59 m60 => oB (natIdx n34 m11) fun m61 => oB (AW.rd h30 m59 (m60 + m61 * 1)) fun v62 => vInt IntKind.i64 v62 fun n63 => aP p56 fun m64 m65 => oB
  (natIdx n63 m57) fun m66 => oB (AW.rd h30 m64 (m65 + m66 * 1)) fun v67 => vInt IntKind.i64 v67 fun n68 => EvQ P f_brickyardlaw20_name [Value.int IntKind.i64 n68] h30 fun v69 h70 => vStr v69 fun
  s71 => aP p10 fun m72 m73 => oB (natIdx n34 m11) fun m74 => oB (AW.rd h70 m72 (m73 + m74 * 1)) fun v75 => vInt IntKind.i64 v75 fun n76 => aP p10 fun m77 m78 => oB (natIdx n34
  m11) fun m79 => oB (AW.wr h70 m77 (m78 + m79 * 1) (Value.int IntKind.i64 (IntKind.wrap IntKind.i64 (n76 + 1)))) fun h80 => EvQ P f_p_sched_Sched_Wait [Value.pointer p8, Value.string s21,
  Value.string s71] h80 fun v81 h82 => vTup v81 fun l83 => lC l83 fun v84 l85 => vSl v84 fun p86 m87 m88 => lC l85 fun v89 l90 => vInt IntKind.i64 v89 fun n91 => lN l90 (bC (n91 !=
  0) (Q (Value.bool false) h82) (unitAt P f_brickyardlaw20_SchedFlows 57 [1, 3, 9, 10, 11, 12, 13, 19, 21, 26, 211, 212, 213] [Value.slice p1 m2 m3, Value.slice p4 m5 m6, Value.int IntKind.i64 n7,
  Value.pointer p8, Value.int IntKind.i64 n9, Value.slice p10 m11 m12, Value.int IntKind.i64 n13, Value.int IntKind.i64 n14, Value.string s21, Value.slice p86 m87 m88, Value.slice
  p86 m87 m88, Value.int IntKind.i64 (↑m87 : Int), Value.int IntKind.i64 0] h82 Q))))))) fun m92 v93 => lN l36 (Q (Value.bool false) h30))))) : unitAt P f_brickyardlaw20_SchedFlows 42 [1, 3, 9, 10, 11,
  12, 13, 19, 20] [Value.slice p1 m2 m3, Value.slice p4 m5 m6, Value.int IntKind.i64 n7, Value.pointer p8, Value.int IntKind.i64 n9, Value.slice p10 m11 m12, Value.int IntKind.i64
  n13, Value.int IntKind.i64 n14, Value.int IntKind.i64 n15] h Q := unit_ok (n := 400) (ann := annOf [(13, [1, 2, 3, 9, 10, 11, 12, 13, 55, 56, 57]), (18, [1, 2, 3, 9, 10, 11, 12,
  13, 14, 15, 55, 56, 57, 66, 67]), (28, [1, 3, 9, 10, 11, 12, 13, 92, 93, 94]), (34, [1, 3, 9, 10, 11, 12, 13, 19]), (42, [1, 3, 9, 10, 11, 12, 13, 19, 20]), (57, [1, 3, 9, 10,
  11, 12, 13, 19, 21, 26, 211, 212, 213]), (66, [1, 3, 9, 10, 11, 12, 13, 19, 30, 255, 256, 257]), (74, [1, 10, 276, 277])]) (Eq.mp (by kernel_rfl) H)
theorem r_brickyardlaw20_SchedFlows_57 {p1 : Option Addr} {m2 : Nat} {m3 : Nat} {p4 : Option Addr} {m5 : Nat} {m6 : Nat} {n7 : Int} {p8 : Option Addr} {n9 : Int} {p10 : Option Addr} {m11 : Nat} {m12 :
  Nat} {n13 : Int} {n14 : Int} {s15 : ByteArray} {p16 : Option Addr} {m17 : Nat} {m18 : Nat} {p19 : Option Addr} {m20 : Nat} {m21 : Nat} {n22 : Int} {n23 : Int} {h : AW} {Q : Value
  → AW → Prop} (H : bC (decide (n23 < n22)) (aP p19 fun m24 m25 => oB (natIdx n23 m20) fun m26 => oB (AW.rd h m24 (m25 + m26 * 1)) fun v27 => vStr v27 fun s28 => EvQ P f_p_sched_Sched_State
  [Value.pointer p8, Value.string s28] h fun v29 h30 => vInt IntKind.i64 v29 fun n31 => bC (n31 != 3) (Q (Value.bool false) h30) (aP p16 fun m32 m33 => oB (natIdx 0 m17) fun m34 =>
  oB (AW.rd h30 m32 (m33 + m34 * 1)) fun v35 => vStr v35 fun s36 => bC (Op.bytesLess (Array.toList (ByteArray.data s28)) (Array.toList (ByteArray.data s36))) (Q (Value.bool false)
  h30) (oB (natBnd n23 m18) fun m37 => bC (Nat.ble m37 m18) (oB (shO p16 0) fun p38 => EvQ P f_slices_Contains_sl_string_string [Value.slice p38 (m37 - 0) (m18 - 0), Value.string s28] h30 fun v39 h40 => vBool
  v39 fun b41 => bC b41 (Q (Value.bool false) h40) (unitAt P f_brickyardlaw20_SchedFlows 57 [1, 3, 9, 10, 11, 12, 13, 19, 21, 26, 211, 212, 213] [Value.slice p1 m2 m3, Value.slice p4 m5 m6, Value.int
  IntKind.i64 n7, Value.pointer p8, Value.int IntKind.i64 n9, Value.slice p10 m11 m12, Value.int IntKind.i64 n13, Value.int IntKind.i64 n14, Value.string s15, Value.slice p16 m17
  m18, Value.slice p19 m20 m21, Value.int IntKind.i64 n22, Value.int IntKind.i64 (IntKind.wrap IntKind.i64 (n23 + 1))] h40 Q)) False))) (bC ((↑m17 : Int) != 0) (EvQ P f_slices_Contains_sl_string_string
  [Value.slice p16 m17 m18, Value.string s15] h fun v42 h43 => vBool v42 fun b44 => bC (!b44) (Q (Value.bool false) h43) (aP p16 fun m45 m46 => oB (natIdx 0 m17) fun m47 => oB
  (AW.rd h43 m45 (m46 + m47 * 1)) fun v48 => vStr v48 fun s49 => EvQ P f_p_sched_Sched_Done [Value.pointer p8, Value.string s49] h43 fun v50 h51 => vInt IntKind.i64 v50 fun n52 => bC (n52 != 0) (Q
  (Value.bool false) h51) (EvQ P f_p_sched_Sched_Slots [Value.pointer p8] h51 fun v53 h54 => vSl v53 fun p55 m56 m57 => unitAt P f_brickyardlaw20_SchedFlows 66 [1, 3, 9, 10, 11, 12, 13, 19, 30, 255, 256, 257]
  [Value.slice p1 m2 m3, Value.slice p4 m5 m6, Value.int IntKind.i64 n7, Value.pointer p8, Value.int IntKind.i64 n9, Value.slice p10 m11 m12, Value.int IntKind.i64 n13, Value.int
  IntKind.i64 n14, Value.int IntKind.i64 0, Value.slice p55 m56 m57, Value.int IntKind.i64 (↑m56 : Int), Value.int IntKind.i64 0] h54 Q))) (EvQ P f_p_sched_Sched_Slots [Value.pointer p8] h fun v58
  h59 => vSl v58 fun p60 m61 m62 => unitAt P f_brickyardlaw20_SchedFlows 66 [1, 3, 9, 10, 11, 12, 13, 19, 30, 255, 256, 257] [Value.slice p1 m2 m3, Value.slice p4 m5 m6, Value.int IntKind.i64 n7,
  Value.pointer p8, Value.int IntKind.i64 n9, Value.slice p10 m11 m12, Value.int IntKind.i64 n13, Value.int IntKind.i64 n14, Value.int IntKind.i64 0, Value.slice p60 m61 m62,
  Value.int IntKind.i64 (↑m61 : Int), Value.int IntKind.i64 0] h59 Q))) : unitAt P f_brickyardlaw20_SchedFlows 57 [1, 3, 9, 10, 11, 12, 13, 19, 21, 26, 211, 212, 213] [Value.slice p1 m2 m3, Value.slice
  p4 m5 m6, Value.int IntKind.i64 n7, Value.pointer p8, Value.int IntKind.i64 n9, Value.slice p10 m11 m12, Value.int IntKind.i64 n13, Value.int IntKind.i64 n14, Value.string s15,
  Value.slice p16 m17 m18, Value.slice p19 m20 m21, Value.int IntKind.i64 n22, Value.int IntKind.i64 n23] h Q := unit_ok (n := 400) (ann := annOf [(13, [1, 2, 3, 9, 10, 11, 12, 13,
  55, 56, 57]), (18, [1, 2, 3, 9, 10, 11, 12, 13, 14, 15, 55, 56, 57, 66, 67]), (28, [1, 3, 9, 10, 11, 12, 13, 92, 93, 94]), (34, [1, 3, 9, 10, 11, 12, 13, 19]), (42, [1, 3, 9, 10,
  11, 12, 13, 19, 20]), (57, [1, 3, 9, 10, 11, 12, 13, 19, 21, 26, 211, 212, 213]), (66, [1, 3, 9, 10, 11, 12, 13, 19, 30, 255, 256, 257]), (74, [1, 10, 276, 277])]) (Eq.mp (by
  kernel_rfl) H)
theorem r_brickyardlaw20_SchedFlows_66 {p1 : Option Addr} {m2 : Nat} {m3 : Nat} {p4 : Option Addr} {m5 : Nat} {m6 : Nat} {n7 : Int} {p8 : Option Addr} {n9 : Int} {p10 : Option Addr} {m11 : Nat} {m12 :
  Nat} {n13 : Int} {n14 : Int} {n15 : Int} {p16 : Option Addr} {m17 : Nat} {m18 : Nat} {n19 : Int} {n20 : Int} {h : AW} {Q : Value → AW → Prop} (H : bC (decide (n20 < n19)) (aP p16
  fun m21 m22 => oB (natIdx n20 m17) fun m23 => oB (AW.rd h m21 (m22 + m23 * 1)) fun v24 => vStr v24 fun s25 => bC (!bEq s25 (ByteArray.mk #[])) (unitAt P f_brickyardlaw20_SchedFlows 66 [1, 3, 9, 10, 11,
  12, 13, 19, 30, 255, 256, 257] [Value.slice p1 m2 m3, Value.slice p4 m5 m6, Value.int IntKind.i64 n7, Value.pointer p8, Value.int IntKind.i64 n9, Value.slice p10 m11 m12,
  Value.int IntKind.i64 n13, Value.int IntKind.i64 n14, Value.int IntKind.i64 (IntKind.wrap IntKind.i64 (n15 + 1)), Value.slice p16 m17 m18, Value.int IntKind.i64 n19, Value.int
  IntKind.i64 (IntKind.wrap IntKind.i64 (n20 + 1))] h Q) (unitAt P f_brickyardlaw20_SchedFlows 66 [1, 3, 9, 10, 11, 12, 13, 19, 30, 255, 256, 257] [Value.slice p1 m2 m3, Value.slice p4 m5 m6, Value.int
  IntKind.i64 n7, Value.pointer p8, Value.int IntKind.i64 n9, Value.slice p10 m11 m12, Value.int IntKind.i64 n13, Value.int IntKind.i64 n14, Value.int IntKind.i64 n15, Value.slice
  p16 m17 m18, Value.int IntKind.i64 n19, Value.int IntKind.i64 (IntKind.wrap IntKind.i64 (n20 + 1))] h Q)) (bC (decide (n15 > n9)) (Q (Value.bool false) h) (EvQ P f_p_sched_Sched_Slots
  [Value.pointer p8] h fun v26 h27 => vSl v26 fun p28 m29 m30 => bC ((↑m29 : Int) != n9) (Q (Value.bool false) h27) (unitAt P f_brickyardlaw20_SchedFlows 34 [1, 3, 9, 10, 11, 12, 13, 19] [Value.slice p1
  m2 m3, Value.slice p4 m5 m6, Value.int IntKind.i64 n7, Value.pointer p8, Value.int IntKind.i64 n9, Value.slice p10 m11 m12, Value.int IntKind.i64 n13, Value.int IntKind.i64
  (IntKind.wrap IntKind.i64 (n14 + 1))] h27 Q)))) : unitAt P f_brickyardlaw20_SchedFlows 66 [1, 3, 9, 10, 11, 12, 13, 19, 30, 255, 256, 257] [Value.slice p1 m2 m3, Value.slice p4 m5 m6, Value.int
  IntKind.i64 n7, Value.pointer p8, Value.int IntKind.i64 n9, Value.slice p10 m11 m12, Value.int IntKind.i64 n13, Value.int IntKind.i64 n14, Value.int IntKind.i64 n15, Value.slice
  p16 m17 m18, Value.int IntKind.i64 n19, Value.int IntKind.i64 n20] h Q := unit_ok (n := 400) (ann := annOf [(13, [1, 2, 3, 9, 10, 11, 12, 13, 55, 56, 57]), (18, [1, 2, 3, 9, 10,
  11, 12, 13, 14, 15, 55, 56, 57, 66, 67]), (28, [1, 3, 9, 10, 11, 12, 13, 92, 93, 94]), (34, [1, 3, 9, 10, 11, 12, 13, 19]), (42, [1, 3, 9, 10, 11, 12, 13, 19, 20]), (57, [1, 3,
  9, 10, 11, 12, 13, 19, 21, 26, 211, 212, 213]), (66, [1, 3, 9, 10, 11, 12, 13, 19, 30, 255, 256, 257]), (74, [1, 10, 276, 277])]) (Eq.mp (by kernel_rfl) H)
theorem r_brickyardlaw20_SchedFlows_74 {p1 : Option Addr} {m2 : Nat} {m3 : Nat} {p4 : Option Addr} {n5 : Int} {n6 : Int} {h : AW} {Q : Value → AW → Prop} (H : bC (decide (n6 < n5)) (EvQ P f_brickyardlaw20_name
  [Value.int IntKind.i64 n6] h fun v7 h8 => vStr v7 fun s9 => EvQ P f_p_sched_Sched_State [Value.pointer p4, Value.string s9] h8 fun v10 h11 => vInt IntKind.i64 v10 fun n12 => bC (n12 != 4) (bC
  (n12 != 0) (Q (Value.bool false) h11) (EvQ P f_brickyardlaw20_name [Value.int IntKind.i64 n6] h11 fun v13 h14 => vStr v13 fun s15 => EvQ P f_p_sched_Sched_Starts [Value.pointer p4, Value.string s15] h14 fun v16
  h17 => vInt IntKind.i64 v16 fun n18 => aP p1 fun m19 m20 => oB (natIdx n6 m2) fun m21 => oB (AW.rd h17 m19 (m20 + m21 * 1)) fun v22 => vSl v22 fun p23 m24 m25 => bC (decide (n18
  > IntKind.wrap IntKind.i64 (1 + (↑m24 : Int)))) (oB (AW.rd h11 m19 (m20 + m21 * 1)) fun v26 => vSl v26 fun p27 m28 m29 => Value.slice p27 m28 m29 = Value.slice p23 m24 m25 ∧ oB
  (AW.rd h14 m19 (m20 + m21 * 1)) fun v30 => vSl v30 fun p31 m32 m33 => Value.slice p31 m32 m33 = Value.slice p23 m24 m25 ∧ Value.int IntKind.i64 (↑m24 : Int) = Value.int
  IntKind.i64 (↑m24 : Int) ∧ Value.int IntKind.i64 (↑m24 : Int) = Value.int IntKind.i64 (↑m24 : Int) ∧ Q (Value.bool false) h17) (EvQ P f_brickyardlaw20_name [Value.int IntKind.i64 n6] h17 fun v34
  h35 => vStr v34 fun s36 => EvQ P f_p_sched_Sched_Starts [Value.pointer p4, Value.string s36] h35 fun v37 h38 => vInt IntKind.i64 v37 fun n39 => oB (AW.rd h11 m19 (m20 + m21 * 1)) fun v40 => vSl
  v40 fun p41 m42 m43 => Value.slice p41 m42 m43 = Value.slice p23 m24 m25 ∧ oB (AW.rd h14 m19 (m20 + m21 * 1)) fun v44 => vSl v44 fun p45 m46 m47 => Value.slice p45 m46 m47 =
  Value.slice p23 m24 m25 ∧ Value.int IntKind.i64 (↑m24 : Int) = Value.int IntKind.i64 (↑m24 : Int) ∧ Value.int IntKind.i64 (↑m24 : Int) = Value.int IntKind.i64 (↑m24 : Int) ∧ bC
  (!(n12 == 0) == (n39 == 0)) (Q (Value.bool false) h38) (unitAt P f_brickyardlaw20_SchedFlows 74 [1, 10, 276, 277] [Value.slice p1 m2 m3, Value.pointer p4, Value.int IntKind.i64 n5, Value.int
  IntKind.i64 (IntKind.wrap IntKind.i64 (n6 + 1))] h38 Q)))) (EvQ P f_brickyardlaw20_name [Value.int IntKind.i64 n6] h11 fun v48 h49 => vStr v48 fun s50 => EvQ P f_p_sched_Sched_Starts [Value.pointer p4,
  Value.string s50] h49 fun v51 h52 => vInt IntKind.i64 v51 fun n53 => aP p1 fun m54 m55 => oB (natIdx n6 m2) fun m56 => oB (AW.rd h52 m54 (m55 + m56 * 1)) fun v57 => vSl v57 fun
  p58 m59 m60 => bC (decide (n53 > IntKind.wrap IntKind.i64 (1 + (↑m59 : Int)))) (oB (AW.rd h11 m54 (m55 + m56 * 1)) fun v61 => vSl v61 fun p62 m63 m64 => Value.slice p62 m63 m64 =
  Value.slice p58 m59 m60 ∧ oB (AW.rd h49 m54 (m55 + m56 * 1)) fun v65 => vSl v65 fun p66 m67 m68 => Value.slice p66 m67 m68 = Value.slice p58 m59 m60 ∧ Value.int IntKind.i64 (↑m59
  : Int) = Value.int IntKind.i64 (↑m59 : Int) ∧ Value.int IntKind.i64 (↑m59 : Int) = Value.int IntKind.i64 (↑m59 : Int) ∧ Q (Value.bool false) h52) (EvQ P f_brickyardlaw20_name [Value.int
  IntKind.i64 n6] h52 fun v69 h70 => vStr v69 fun s71 => EvQ P f_p_sched_Sched_Starts [Value.pointer p4, Value.string s71] h70 fun v72 h73 => vInt IntKind.i64 v72 fun n74 => oB (AW.rd h11 m54 (m55 +
  m56 * 1)) fun v75 => vSl v75 fun p76 m77 m78 => Value.slice p76 m77 m78 = Value.slice p58 m59 m60 ∧ oB (AW.rd h49 m54 (m55 + m56 * 1)) fun v79 => vSl v79 fun p80 m81 m82 =>
  Value.slice p80 m81 m82 = Value.slice p58 m59 m60 ∧ Value.int IntKind.i64 (↑m59 : Int) = Value.int IntKind.i64 (↑m59 : Int) ∧ Value.int IntKind.i64 (↑m59 : Int) = Value.int
  IntKind.i64 (↑m59 : Int) ∧ bC (!(n12 == 0) == (n74 == 0)) (Q (Value.bool false) h73) (unitAt P f_brickyardlaw20_SchedFlows 74 [1, 10, 276, 277] [Value.slice p1 m2 m3, Value.pointer p4, Value.int
  IntKind.i64 n5, Value.int IntKind.i64 (IntKind.wrap IntKind.i64 (n6 + 1))] h73 Q)))) (Q (Value.bool true) h)) : unitAt P f_brickyardlaw20_SchedFlows 74 [1, 10, 276, 277] [Value.slice p1 m2 m3,
  Value.pointer p4, Value.int IntKind.i64 n5, Value.int IntKind.i64 n6] h Q := unit_ok (n := 400) (ann := annOf [(13, [1, 2, 3, 9, 10, 11, 12, 13, 55, 56, 57]), (18, [1, 2, 3, 9,
  10, 11, 12, 13, 14, 15, 55, 56, 57, 66, 67]), (28, [1, 3, 9, 10, 11, 12, 13, 92, 93, 94]), (34, [1, 3, 9, 10, 11, 12, 13, 19]), (42, [1, 3, 9, 10, 11, 12, 13, 19, 20]), (57, [1,
  3, 9, 10, 11, 12, 13, 19, 21, 26, 211, 212, 213]), (66, [1, 3, 9, 10, 11, 12, 13, 19, 30, 255, 256, 257]), (74, [1, 10, 276, 277])]) (Eq.mp (by kernel_rfl) H)
theorem r_slices_Clone_sl_int_int {p1 : Option Addr} {m2 : Nat} {m3 : Nat} {h : AW} {Q : Value → AW → Prop} (H : bC (Option.isNone p1) (Q (Value.slice none 0 0) h) (oP (appendB P (AW.addVar h [])
  (Array.mk [ty_sl_int, ty_sl_int]) [Value.slice (some (Addr.mk (AW.next h) 0 none)) 0 0, Value.slice p1 m2 m3]) fun v4 h5 => vSl v4 fun p6 m7 m8 => Q (Value.slice p6 m7 m8) h5)) : EvQ P
  f_slices_Clone_sl_int_int [Value.slice p1 m2 m3] h Q := fn_ok (n := 400) (ann := annOf []) (Eq.mp (by kernel_rfl) H)
theorem r_slices_Clone_sl_sl_int_sl_int {p1 : Option Addr} {m2 : Nat} {m3 : Nat} {h : AW} {Q : Value → AW → Prop} (H : bC (Option.isNone p1) (Q (Value.slice none 0 0) h) (oP (appendB P (AW.addVar h [])
  (Array.mk [ty_sl_sl_int, ty_sl_sl_int]) [Value.slice (some (Addr.mk (AW.next h) 0 none)) 0 0, Value.slice p1 m2 m3]) fun v4 h5 => vSl v4 fun p6 m7 m8 => Q (Value.slice p6 m7 m8) h5)) : EvQ P
  f_slices_Clone_sl_sl_int_sl_int [Value.slice p1 m2 m3] h Q := fn_ok (n := 400) (ann := annOf []) (Eq.mp (by kernel_rfl) H)
end Go.Proofs.YtgdkekdedgkglaaDoor
end

section
/- SchedFlows: tasks' names; what they ask, made to fit. -/
namespace Go.Proofs.YtgdkekdedgkglaaDoor
open Go.Abs Go.Abs.Sch
open Go.Abs.Fo (Vw)
set_option maxRecDepth 100000
attribute [local irreducible] unitAt EvQ
variable {h : AW} {μ : Paint} {ρ : Store} {Q : Value → AW → Prop}
/-- A number below a hundred, in digits. -/
def dig6 (i : Nat) : Str := if i < 10 then ⟨#[UInt8.ofNat (48 + i)]⟩ else ⟨#[UInt8.ofNat (48 + i / 10), UInt8.ofNat (48 + i % 10)]⟩
def tnm (i : Nat) : Str := ⟨#[116]⟩ ++ dig6 i
theorem itoa6_all (h : AW) : (List.range 30).map (fun i => callF P 12 f_strconv_Itoa [.int .i64 (Int.ofNat i)] h) = (List.range 30).map fun i => some (.string (dig6 i), h) := by kernel_rfl
theorem itoa6_ok {i : Nat} (hi : i < 30) (hq : Q (.string (dig6 i)) h) : EvQ P f_strconv_Itoa [.int .i64 (i : Int)] h Q := by
  have := congrArg (fun l => l[i]?) (itoa6_all h)
  simp only [List.getElem?_map, List.getElem?_range hi, Option.map_some, Option.some.injEq] at this
  unfold EvQ
  exact ⟨_, _, ⟨12, this⟩, hq⟩
theorem name6_ok {i : Nat} (hi : i < 30) (hq : Q (.string (tnm i)) h) : EvQ P f_brickyardlaw20_name [.int .i64 (i : Int)] h Q := by
  refine r_brickyardlaw20_name (itoa6_ok hi ?_)
  simp only [oB_some, bC_true, bC_false, vInt_int, vBool_bool, vStr_string, vPtr_pointer, vSl_slice, vMap_map, vFun_func, vAgg_agg, vTup_tuple, vIfc_nil, vIfc_iface, lC_cons, lN_nil, aP_some, shO_none, shO_some, Option.isNone_none, Option.isNone_some, Bool.not_true, Bool.not_false]
  have hs : (dig6 i).size ≤ 2 := by unfold dig6; split <;> simp [ByteArray.size]
  rw [Nat.ble_eq_true_of_le (by omega)]
  simp only [oB_some, bC_true, bC_false, vInt_int, vBool_bool, vStr_string, vPtr_pointer, vSl_slice, vMap_map, vFun_func, vAgg_agg, vTup_tuple, vIfc_nil, vIfc_iface, lC_cons, lN_nil, aP_some, shO_none, shO_some, Option.isNone_none, Option.isNone_some, Bool.not_true, Bool.not_false]
  exact hq
theorem tn_num : ∀ k : Fin 30, Go.Abs.Fo.numL (dig6 k.1).data.toList 0 = some k.1 ∧ 1 ≤ (dig6 k.1).size ∧ (dig6 k.1).size < 19 := by decide +kernel
theorem tn_sub : ∀ k : Fin 30, bSub (tnm k.1) 1 (tnm k.1).size = dig6 k.1 ∧ 1 ≤ (tnm k.1).size ∧ tnm k.1 ≠ e0 := by decide +kernel
theorem tn_inj {i j : Nat} (hi : i < 30) (hj : j < 30) (e : tnm i = tnm j) : i = j := by
  have h1 := (tn_sub ⟨i, hi⟩).1
  have h2 := (tn_sub ⟨j, hj⟩).1
  simp only at h1 h2
  rw [e, h2] at h1
  have h3 := (tn_num ⟨i, hi⟩).1
  have h4 := (tn_num ⟨j, hj⟩).1
  simp only at h3 h4
  rw [← h1, h4] at h3
  exact (Option.some.inj h3).symm
/-! Lists of numbers. -/
abbrev intsV (l : List Int) : List Value := l.map (Value.int .i64)
theorem one_intsV (l : List Int) : allOne (intsV l) = true := allOne_of fun v hv => by
  obtain ⟨b, _, rfl⟩ := List.mem_map.1 hv
  rfl
structure Iw where
  a : Option Addr
  cap : Nat
  x : List Int
def Iw.cell (q : Iw) : Value := .slice q.a q.x.length q.cap
structure AskV (ρ : Store) (ns : List Nat) (qs : List Iw) (a : Option Addr) : Prop where
  top : Vw ρ ns a (qs.map Iw.cell)
  each : ∀ q, q ∈ qs → Vw ρ ns q.a (intsV q.x)
  caps : ∀ q, q ∈ qs → q.x.length ≤ q.cap
theorem one_cells (qs : List Iw) : allOne (qs.map Iw.cell) = true := allOne_of fun v hv => by
  obtain ⟨q, _, rfl⟩ := List.mem_map.1 hv
  rfl
theorem AskV.keep {ns : List Nat} {ρ' : Store} {qs : List Iw} {a : Option Addr} (X : AskV ρ ns qs a) (F : Fra ns ρ ρ') : AskV ρ' ns qs a := ⟨X.top.keep F, fun q hq => (X.each q hq).keep F, X.caps⟩
theorem vw_keepN {ns ns' : List Nat} {ρ ρ' : Store} {a : Option Addr} {l : List Value} (V : Vw ρ ns a l) (F : FrN ns ρ ns' ρ') : Vw ρ' ns' a l := V.imp id fun x => x.keepN F
theorem vw_fresh {ns : List Nat} {ρ ρ' : Store} {a : Option Addr} {l : List Value} (V : Vw ρ [] a l) (F : Fra [] ρ ρ') (hf : ∀ c, c ∈ ns → ρ c = none) : Vw ρ' ns a l := V.imp id fun x => x.fresh F hf
theorem AskV.keepN {ns ns' : List Nat} {ρ' : Store} {qs : List Iw} {a : Option Addr} (X : AskV ρ ns qs a) (F : FrN ns ρ ns' ρ') : AskV ρ' ns' qs a := ⟨vw_keepN X.top F, fun q hq => vw_keepN (X.each q hq) F, X.caps⟩
theorem ask_at (O : Own h μ ρ) {ns : List Nat} {qs : List Iw} {a : Option Addr} {N j : Nat} {z : Int} (X : AskV ρ ns qs a) (hz : z = j) (hN : N = qs.length) (hj : j < qs.length) {f : Option Addr → Nat → Nat → Prop}
    (H : f qs[j].a qs[j].x.length qs[j].cap) : aP a fun i off => oB (natIdx z N) fun k => oB (h.rd i (off + k * 1)) fun v => vSl v f := by
  refine (X.top.sl O).i1 (v := qs[j].cell) hz (by simp [hN]) (by simp [hj]) ?_
  exact H
theorem int_at (O : Own h μ ρ) {ns : List Nat} {x : List Int} {a : Option Addr} {N j : Nat} {z : Int} (X : Vw ρ ns a (intsV x)) (hz : z = j) (hN : N = x.length) (hj : j < x.length) {f : Int → Prop}
    (H : f x[j]) : aP a fun i off => oB (natIdx z N) fun k => oB (h.rd i (off + k * 1)) fun v => vInt .i64 v f := by
  refine (X.sl O).i1 (v := .int .i64 x[j]) hz (by simp [hN]) (by simp [hj]) ?_
  exact H
theorem some_of (O : Own h μ ρ) {ns : List Nat} {a : Option Addr} {l : List Value} (V : Vw ρ ns a l) (h0 : 0 < l.length) : Option.isNone a = false := by
  rcases V.sl O with ⟨_, e⟩ | ⟨i, off, rfl, _⟩
  · rw [e] at h0; simp at h0
  · rfl
theorem cloneI_ok (O : Own h μ ρ) {ns : List Nat} {a : Option Addr} {x : List Int} {cap : Nat} (V : Vw ρ ns a (intsV x)) (h0 : 0 < x.length) (hl : x.length ≤ 1000000) {N : Nat} (hN : N = x.length)
    (H : ∀ h' μ' ρ' c a' cap', Own h' μ' ρ' → Fra [] ρ ρ' → ρ c = none → ρ' c = some (.sl a' cap' 1 (intsV x)) → Q (.slice a' N cap') h') : EvQ P f_slices_Clone_sl_int_int [.slice a N cap] h Q := by
  subst hN
  refine r_slices_Clone_sl_int_int ?_
  rw [some_of O V (by simpa using h0)]
  simp only [oB_some, bC_true, bC_false, vInt_int, vBool_bool, vStr_string, vPtr_pointer, vSl_slice, vMap_map, vFun_func, vAgg_agg, vTup_tuple, vIfc_nil, vIfc_iface, lC_cons, lN_nil, aP_some, shO_none, shO_some, Option.isNone_none, Option.isNone_some, Bool.not_true, Bool.not_false]
  obtain ⟨μ1, ρ1, c, O1, W1, hc⟩ := w_block O p00 [] (n := 0) (sz := 1) rfl rfl
  have F1 : Fra [] ρ ρ1 := W1.fra0 fun d hd => by simp at hd; rw [hd]; exact hc
  refine w_app (P := P) O1 W1 0 (n := 0) (m := x.length) ti_ty_sl_int ti_ty_int (by decide) rfl rfl ((V.keep (F1.mono fun d hd => by simp at hd)).sl O1) (by simp) (one_intsV x) (by omega) (by omega) fun a' cap' h2 μ2 ρ2 O2 W2 => ?_
  simp only [oB_some, bC_true, bC_false, vInt_int, vBool_bool, vStr_string, vPtr_pointer, vSl_slice, vMap_map, vFun_func, vAgg_agg, vTup_tuple, vIfc_nil, vIfc_iface, lC_cons, lN_nil, aP_some, shO_none, shO_some, Option.isNone_none, Option.isNone_some, Bool.not_true, Bool.not_false]
  rw [Nat.zero_add]
  refine H _ _ _ c a' cap' O2 (W2.fra0 fun d hd => by simp at hd; rw [hd]; exact hc) hc ?_
  exact W2.at_ 0 _ _ rfl rfl
theorem cloneA_ok (O : Own h μ ρ) {ns : List Nat} {a : Option Addr} {qs : List Iw} {cap : Nat} (X : AskV ρ ns qs a) (h0 : 0 < qs.length) (hl : qs.length ≤ 1000000)
    (H : ∀ h' μ' ρ' c a' cap', Own h' μ' ρ' → Fra [] ρ ρ' → ρ c = none → ρ' c = some (.sl a' cap' 1 (qs.map Iw.cell)) → Q (.slice a' qs.length cap') h') : EvQ P f_slices_Clone_sl_sl_int_sl_int [.slice a qs.length cap] h Q := by
  refine r_slices_Clone_sl_sl_int_sl_int ?_
  rw [some_of O X.top (by simpa using h0)]
  simp only [oB_some, bC_true, bC_false, vInt_int, vBool_bool, vStr_string, vPtr_pointer, vSl_slice, vMap_map, vFun_func, vAgg_agg, vTup_tuple, vIfc_nil, vIfc_iface, lC_cons, lN_nil, aP_some, shO_none, shO_some, Option.isNone_none, Option.isNone_some, Bool.not_true, Bool.not_false]
  obtain ⟨μ1, ρ1, c, O1, W1, hc⟩ := w_block O p00 [] (n := 0) (sz := 1) rfl rfl
  have F1 : Fra [] ρ ρ1 := W1.fra0 fun d hd => by simp at hd; rw [hd]; exact hc
  refine w_app (P := P) O1 W1 0 (n := 0) (m := qs.length) ti_ty_sl_sl_int ti_ty_sl_int (by decide) rfl rfl ((X.top.keep (F1.mono fun d hd => by simp at hd)).sl O1) (by simp) (one_cells qs) (by omega) (by omega) fun a' cap' h2 μ2 ρ2 O2 W2 => ?_
  simp only [oB_some, bC_true, bC_false, vInt_int, vBool_bool, vStr_string, vPtr_pointer, vSl_slice, vMap_map, vFun_func, vAgg_agg, vTup_tuple, vIfc_nil, vIfc_iface, lC_cons, lN_nil, aP_some, shO_none, shO_some, Option.isNone_none, Option.isNone_some, Bool.not_true, Bool.not_false]
  rw [Nat.zero_add]
  refine H _ _ _ c a' cap' O2 (W2.fra0 fun d hd => by simp at hd; rw [hd]; exact hc) hc ?_
  exact W2.at_ 0 _ _ rfl rfl
/-- A number made to fit. -/
def nrm (n : Nat) (z : Int) : Int := Int.tmod (if 0 > z then 0 else z) (n : Int)
theorem nrm_range {n : Nat} (hn : 0 < n) (z : Int) : 0 ≤ nrm n z ∧ nrm n z < n := by
  unfold nrm
  have h1 := Int.tmod_lt_of_pos (if 0 > z then 0 else z) (show (0 : Int) < (n : Int) by omega)
  have h2 := Int.tmod_nonneg (a := if 0 > z then 0 else z) (n : Int) (by split <;> omega)
  exact ⟨h2, h1⟩
theorem set_norm {x : List Int} {n k : Nat} (hk : k < x.length) : ((x.take k).map (nrm n) ++ x.drop k).set k (nrm n x[k]) = (x.take (k + 1)).map (nrm n) ++ x.drop (k + 1) := by
  have hl : ((x.take k).map (nrm n)).length = k := by simp; omega
  rw [List.set_append_right _ _ (by omega), hl, Nat.sub_self, List.drop_eq_getElem_cons hk, List.set_cons_zero, List.take_succ_eq_append_getElem hk, List.map_append, List.append_assoc]
  rfl
end Go.Proofs.YtgdkekdedgkglaaDoor
end

section
/- SchedFlows: what tasks ask is made to fit; the wanted tasks are wanted. -/
namespace Go.Proofs.YtgdkekdedgkglaaDoor
open Go.Abs Go.Abs.Sch
open Go.Abs.Fo (Vw)
set_option maxRecDepth 100000
attribute [local irreducible] unitAt EvQ
variable {h : AW} {μ : Paint} {ρ : Store} {Q : Value → AW → Prop}
theorem fra_ns {ns : List Nat} {ρ ρ' : Store} (F : Fra [] ρ ρ') : Fra ns ρ ρ' := F.mono fun d hd => by simp at hd
theorem flow_18 {N0 : List Nat} {qs0 : List Iw} {a0 : Option Addr} {c0 : Nat} {wa pa ta pp : Option Addr} {wl wc pl pc tl tc S : Nat} {room : Int} (hN0 : ∀ d, d ∈ N0 → ∃ r, ρ d = some r) (hl : qs0.length ≤ 24) (hS : S ≤ 1000000) {i : Nat} (hi : i < qs0.length) (h8 : qs0[i].x.length ≤ 8)
    (next : ∀ {h : AW} {μ : Paint} {ρ' : Store} {cur : List Iw} {a : Option Addr} {cap : Nat}, Own h μ ρ' → Fra [] ρ ρ' → AskV ρ' N0 cur a → cur.map Iw.x = (qs0.take i).map (fun q => q.x.map (nrm qs0.length)) ++ (qs0[i].x.map (nrm qs0.length) :: (qs0.drop (i + 1)).map Iw.x) →
      unitAt P f_brickyardlaw20_SchedFlows 13 [1, 2, 3, 9, 10, 11, 12, 13, 55, 56, 57] [.slice a cur.length cap, .slice wa wl wc, .slice pa pl pc, .int .i64 (qs0.length : Int), .pointer pp, .int .i64 room, .slice ta tl tc, .int .i64 ((S + qs0[i].x.length : Nat) : Int), .slice a0 qs0.length c0, .int .i64 (qs0.length : Int), .int .i64 ((i + 1 : Nat) : Int)] h Q) :
    ∀ (d k : Nat) {h : AW} {μ : Paint} {ρ' : Store} {cur : List Iw} {a la : Option Addr} {cap lc : Nat}, qs0[i].x.length - k = d → k ≤ qs0[i].x.length → Own h μ ρ' → Fra [] ρ ρ' → AskV ρ' N0 cur a →
      cur.map Iw.x = (qs0.take i).map (fun q => q.x.map (nrm qs0.length)) ++ (((qs0[i].x.take k).map (nrm qs0.length) ++ qs0[i].x.drop k) :: (qs0.drop (i + 1)).map Iw.x) → Vw ρ' N0 la (intsV ((qs0[i].x.take k).map (nrm qs0.length) ++ qs0[i].x.drop k)) →
      unitAt P f_brickyardlaw20_SchedFlows 18 [1, 2, 3, 9, 10, 11, 12, 13, 14, 15, 55, 56, 57, 66, 67] [.slice a cur.length cap, .slice wa wl wc, .slice pa pl pc, .int .i64 (qs0.length : Int), .pointer pp, .int .i64 room, .slice ta tl tc, .int .i64 ((S + k : Nat) : Int), .int .i64 (i : Int), .slice la qs0[i].x.length lc, .slice a0 qs0.length c0, .int .i64 (qs0.length : Int), .int .i64 (i : Int), .int .i64 (qs0[i].x.length : Int), .int .i64 (k : Int)] h Q := by
  generalize hx : qs0[i].x = x at *
  intro d
  induction d with
  | zero =>
    intro k h μ ρ' cur a la cap lc hd hk O F X e V
    have : k = x.length := by omega
    subst this
    rw [List.take_length, List.drop_length, List.append_nil] at e
    refine r_brickyardlaw20_SchedFlows_18 ?_
    rw [show decide ((x.length : Int) < (x.length : Int)) = false from decide_eq_false (by omega)]
    simp only [oB_some, bC_true, bC_false, vInt_int, vBool_bool, vStr_string, vPtr_pointer, vSl_slice, vMap_map, vFun_func, vAgg_agg, vTup_tuple, vIfc_nil, vIfc_iface, lC_cons, lN_nil, aP_some, shO_none, shO_some, Option.isNone_none, Option.isNone_some, Bool.not_true, Bool.not_false]
    rw [wrapS (by omega)]
    exact next O F X e
  | succ d ih =>
    intro k h μ ρ' cur a la cap lc hd hk O F X e V
    have hk1 : k < x.length := by omega
    have hll : ((x.take k).map (nrm qs0.length) ++ x.drop k).length = x.length := by simp; omega
    have hcl : cur.length = qs0.length := by have := congrArg List.length e; simp at this; omega
    have notN : ∀ {ρ1 : Store} {c : Nat}, Fra [] ρ ρ1 → ρ1 c = none → c ∉ N0 := fun F1 hc hm => by
      obtain ⟨r, hr⟩ := hN0 _ hm
      rw [F1 _ _ (by simp) hr] at hc; cases hc
    refine r_brickyardlaw20_SchedFlows_18 ?_
    rw [show decide ((k : Int) < (x.length : Int)) = true from decide_eq_true (by omega)]
    simp only [oB_some, bC_true, bC_false, vInt_int, vBool_bool, vStr_string, vPtr_pointer, vSl_slice, vMap_map, vFun_func, vAgg_agg, vTup_tuple, vIfc_nil, vIfc_iface, lC_cons, lN_nil, aP_some, shO_none, shO_some, Option.isNone_none, Option.isNone_some, Bool.not_true, Bool.not_false]
    refine cloneI_ok O V (by omega) (by omega) hll.symm fun h1 μ1 ρ1 c1 a1 cap1 O1 F1 hc1 hr1 => ?_
    simp only [oB_some, bC_true, bC_false, vInt_int, vBool_bool, vStr_string, vPtr_pointer, vSl_slice, vMap_map, vFun_func, vAgg_agg, vTup_tuple, vIfc_nil, vIfc_iface, lC_cons, lN_nil, aP_some, shO_none, shO_some, Option.isNone_none, Option.isNone_some, Bool.not_true, Bool.not_false]
    have W1 := Pcs.one hr1
    have hget : ((x.take k).map (nrm qs0.length) ++ x.drop k)[k]? = some x[k] := by
      have : ((x.take k).map (nrm qs0.length)).length = k := by simp; omega
      rw [List.getElem?_append_right (by omega), this, Nat.sub_self, List.getElem?_drop, Nat.add_zero, List.getElem?_eq_getElem hk1]
    refine (w_sl O1 W1 0 rfl).i1 (v := .int .i64 x[k]) rfl (by simp; omega) (by unfold intsV; rw [List.getElem?_map, hget]; rfl) ?_
    simp only [oB_some, bC_true, bC_false, vInt_int, vBool_bool, vStr_string, vPtr_pointer, vSl_slice, vMap_map, vFun_func, vAgg_agg, vTup_tuple, vIfc_nil, vIfc_iface, lC_cons, lN_nil, aP_some, shO_none, shO_some, Option.isNone_none, Option.isNone_some, Bool.not_true, Bool.not_false]
    rw [show decide ((qs0.length : Int) = 0) = false from decide_eq_false (by omega)]
    simp only [oB_some, bC_true, bC_false, vInt_int, vBool_bool, vStr_string, vPtr_pointer, vSl_slice, vMap_map, vFun_func, vAgg_agg, vTup_tuple, vIfc_nil, vIfc_iface, lC_cons, lN_nil, aP_some, shO_none, shO_some, Option.isNone_none, Option.isNone_some, Bool.not_true, Bool.not_false]
    refine w_i1_wr O1 W1 0 rfl (j := k) rfl (by simp; omega) (by simp; omega) rfl fun h2 ρ2 O2 W2 => ?_
    have hset : (intsV ((x.take k).map (nrm qs0.length) ++ x.drop k)).set k (.int .i64 (nrm qs0.length x[k])) = intsV ((x.take (k + 1)).map (nrm qs0.length) ++ x.drop (k + 1)) := by
      unfold intsV
      rw [← set_norm hk1, List.map_set]
    have W2' : Pcs ρ1 ρ2 [c1] [.sl a1 cap1 1 (intsV ((x.take (k + 1)).map (nrm qs0.length) ++ x.drop (k + 1)))] := W2.eq (by rw [← hset]; rfl)
    have F2 : Fra [] ρ' ρ2 := F1.via W2'.fra fun c hc => by simp at hc; rw [hc]; exact hc1
    have hn1 : c1 ∉ N0 := notN F hc1
    refine cloneA_ok O2 (X.keep (fra_ns F2)) (by omega) (by omega) fun h3 μ3 ρ3 c2 a2 cap2 O3 F3 hc2 hr2 => ?_
    simp only [oB_some, bC_true, bC_false, vInt_int, vBool_bool, vStr_string, vPtr_pointer, vSl_slice, vMap_map, vFun_func, vAgg_agg, vTup_tuple, vIfc_nil, vIfc_iface, lC_cons, lN_nil, aP_some, shO_none, shO_some, Option.isNone_none, Option.isNone_some, Bool.not_true, Bool.not_false]
    have W3 := Pcs.one hr2
    refine w_i1_wr O3 W3 0 rfl (j := i) rfl (by simp) (by simp; omega) rfl fun h4 ρ4 O4 W4 => ?_
    have hnl : ((x.take (k + 1)).map (nrm qs0.length) ++ x.drop (k + 1)).length = x.length := by simp; omega
    have hcells : (cur.map Iw.cell).set i (.slice a1 x.length cap1) = (cur.set i ⟨a1, cap1, (x.take (k + 1)).map (nrm qs0.length) ++ x.drop (k + 1)⟩).map Iw.cell := by
      rw [List.map_set]
      simp only [Iw.cell, hnl]
    have W4' : Pcs ρ3 ρ4 [c2] [.sl a2 cap2 1 ((cur.set i ⟨a1, cap1, (x.take (k + 1)).map (nrm qs0.length) ++ x.drop (k + 1)⟩).map Iw.cell)] := W4.eq (by rw [← hcells]; rfl)
    have F4 : Fra [] ρ2 ρ4 := F3.via W4'.fra fun c hc => by simp at hc; rw [hc]; exact hc2
    have F24 := F2.trans F4
    have hn2 : c2 ∉ N0 := notN (F.trans F2) hc2
    have hr1' : ρ4 c1 = some (.sl a1 cap1 1 (intsV ((x.take (k + 1)).map (nrm qs0.length) ++ x.drop (k + 1)))) := F4 _ _ (by simp) (W2'.at_ 0 _ _ rfl rfl)
    have V4 : Vw ρ4 N0 a1 (intsV ((x.take (k + 1)).map (nrm qs0.length) ++ x.drop (k + 1))) := .inr (Rd.of_sl O4 hn1 hr1')
    have hcap1 : x.length ≤ cap1 := by
      have M : OM h4 μ3 c1 a1 cap1 1 _ := O4.holds _ _ hr1'
      have := M.le
      simp only [intsV, List.length_map, hnl] at this
      omega
    rw [wrapS (by omega), wrapS (by omega)]
    have := ih (k + 1) (cur := cur.set i ⟨a1, cap1, (x.take (k + 1)).map (nrm qs0.length) ++ x.drop (k + 1)⟩) (a := a2) (la := a1) (cap := cap2) (lc := cap1) (by omega) (by omega) O4 (F.trans F24) ⟨.inr (Rd.of_sl O4 hn2 (W4'.at_ 0 _ _ rfl rfl)), fun q hq => ?_, fun q hq => ?_⟩ ?_ V4
    · rw [List.length_set, ← Nat.add_assoc] at this
      exact this
    · rcases List.mem_or_eq_of_mem_set hq with hq | rfl
      · exact (X.each q hq).keep (fra_ns F24)
      · exact V4
    · rcases List.mem_or_eq_of_mem_set hq with hq | rfl
      · exact X.caps q hq
      · simp only [hnl]; exact hcap1
    · rw [List.map_set, e]
      have : ((qs0.take i).map (fun q => q.x.map (nrm qs0.length))).length = i := by simp; omega
      rw [List.set_append_right _ _ (by omega), this, Nat.sub_self, List.set_cons_zero]
theorem flow_13 {N0 : List Nat} {qs0 : List Iw} {a0 : Option Addr} {c0 : Nat} {wa pa ta pp : Option Addr} {wl wc pl pc tl tc : Nat} {room : Int} (X0 : AskV ρ N0 qs0 a0) (hN0 : ∀ d, d ∈ N0 → ∃ r, ρ d = some r) (hl : qs0.length ≤ 24) (hq : ∀ h', Q (.bool true) h')
    (fin : ∀ {h : AW} {μ : Paint} {ρ' : Store} {cur : List Iw} {a : Option Addr} {cap : Nat}, Own h μ ρ' → Fra [] ρ ρ' → AskV ρ' N0 cur a → cur.map Iw.x = qs0.map (fun q => q.x.map (nrm qs0.length)) → (∀ q, q ∈ qs0 → q.x.length ≤ 8) →
      unitAt P f_brickyardlaw20_SchedFlows 28 [1, 3, 9, 10, 11, 12, 13, 92, 93, 94] [.slice a cur.length cap, .slice pa pl pc, .int .i64 (qs0.length : Int), .pointer pp, .int .i64 room, .slice ta tl tc, .int .i64 (((qs0.map fun q => q.x.length).sum : Nat) : Int), .slice wa wl wc, .int .i64 (wl : Int), .int .i64 0] h Q) :
    ∀ (d i : Nat) {h : AW} {μ : Paint} {ρ' : Store} {cur : List Iw} {a : Option Addr} {cap : Nat}, qs0.length - i = d → i ≤ qs0.length → Own h μ ρ' → Fra [] ρ ρ' → AskV ρ' N0 cur a → cur.map Iw.x = (qs0.take i).map (fun q => q.x.map (nrm qs0.length)) ++ (qs0.drop i).map Iw.x → (∀ q, q ∈ qs0.take i → q.x.length ≤ 8) → ((qs0.take i).map fun q => q.x.length).sum ≤ 8 * i →
      unitAt P f_brickyardlaw20_SchedFlows 13 [1, 2, 3, 9, 10, 11, 12, 13, 55, 56, 57] [.slice a cur.length cap, .slice wa wl wc, .slice pa pl pc, .int .i64 (qs0.length : Int), .pointer pp, .int .i64 room, .slice ta tl tc, .int .i64 ((((qs0.take i).map fun q => q.x.length).sum : Nat) : Int), .slice a0 qs0.length c0, .int .i64 (qs0.length : Int), .int .i64 (i : Int)] h Q := by
  intro d
  induction d with
  | zero =>
    intro i h μ ρ' cur a cap hd hi O F X e h8 hS
    have : i = qs0.length := by omega
    subst this
    rw [List.take_length] at *
    refine r_brickyardlaw20_SchedFlows_13 ?_
    rw [show decide ((qs0.length : Int) < (qs0.length : Int)) = false from decide_eq_false (by omega)]
    simp only [oB_some, bC_true, bC_false, vInt_int, vBool_bool, vStr_string, vPtr_pointer, vSl_slice, vMap_map, vFun_func, vAgg_agg, vTup_tuple, vIfc_nil, vIfc_iface, lC_cons, lN_nil, aP_some, shO_none, shO_some, Option.isNone_none, Option.isNone_some, Bool.not_true, Bool.not_false]
    exact fin O F X (by rw [e, List.drop_length]; simp) h8
  | succ d ih =>
    intro i h μ ρ' cur a cap hd hi O F X e h8 hS
    have hi1 : i < qs0.length := by omega
    refine r_brickyardlaw20_SchedFlows_13 ?_
    rw [show decide ((i : Int) < (qs0.length : Int)) = true from decide_eq_true (by omega)]
    simp only [oB_some, bC_true, bC_false, vInt_int, vBool_bool, vStr_string, vPtr_pointer, vSl_slice, vMap_map, vFun_func, vAgg_agg, vTup_tuple, vIfc_nil, vIfc_iface, lC_cons, lN_nil, aP_some, shO_none, shO_some, Option.isNone_none, Option.isNone_some, Bool.not_true, Bool.not_false]
    refine ask_at O (X0.keep (fra_ns F)) rfl rfl hi1 ?_
    refine bC_iff (fun _ => hq _) (fun e8 => ?_)
    have e8 : qs0[i].x.length ≤ 8 := by have := of_decide_eq_false e8; omega
    have hsum : ((qs0.take (i + 1)).map fun q => q.x.length).sum = ((qs0.take i).map fun q => q.x.length).sum + qs0[i].x.length := by
      rw [List.take_succ_eq_append_getElem hi1, List.map_append, List.sum_append]; simp
    have := flow_18 (cap := cap) (Q := Q) (c0 := c0) (wa := wa) (pa := pa) (ta := ta) (pp := pp) (wl := wl) (wc := wc) (pl := pl) (pc := pc) (tl := tl) (tc := tc) (room := room) (a0 := a0) (S := ((qs0.take i).map fun q => q.x.length).sum) hN0 hl (by omega) hi1 e8 (fun {h μ ρ' cur a cap} O' F' X' e' => ?_) _ 0 (la := qs0[i].a) (lc := qs0[i].cap) rfl (Nat.zero_le _) O F X ?_ ?_
    · rw [Nat.add_zero] at this
      exact this
    · have := ih (i + 1) (cap := cap) (by omega) (by omega) O' F' X' ?_ ?_ (by rw [hsum]; omega)
      · rw [hsum] at this
        exact this
      · rw [e', List.take_succ_eq_append_getElem hi1]
        simp only [List.map_append, List.map_cons, List.map_nil, List.append_assoc, List.cons_append, List.nil_append]
      · intro q hq
        rw [List.take_succ_eq_append_getElem hi1] at hq
        rcases List.mem_append.1 hq with hq | hq
        · exact h8 q hq
        · simp at hq; subst hq; exact e8
    · rw [e, List.drop_eq_getElem_cons hi1]
      simp only [List.map_cons, List.take_zero, List.map_nil, List.nil_append, List.drop_zero]
    · have := (X0.each _ (List.getElem_mem hi1)).keep (fra_ns F)
      simpa using this
end Go.Proofs.YtgdkekdedgkglaaDoor
end
