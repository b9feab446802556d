/- A deterministic heap for the model, proved sound, and walks of the program over it: part 8. No condition. -/
import Derived.Test.YtgdkekdedgkglaaDoorAb1
import Derived.Test.YtgdkekdedgkglaaDoorAb2
import Derived.Test.YtgdkekdedgkglaaDoorAb3
import Derived.Test.YtgdkekdedgkglaaDoorAb5
import Derived.Test.YtgdkekdedgkglaaDoorCd2
import Derived.Test.YtgdkekdedgkglaaDoorAb4
import Derived.Test.YtgdkekdedgkglaaDoorCd1
set_option linter.unusedVariables false
set_option linter.unusedSimpArgs false
set_option linter.unusedSectionVars false
section
/- The scheduler: Done, New. -/
namespace Go.Proofs.YtgdkekdedgkglaaDoor
open Go.Abs Go.Abs.Sch
set_option maxRecDepth 100000
attribute [local irreducible] unitAt EvQ
variable {h : AW} {μ : Paint} {ρ : Store} {Q : Value → AW → Prop}

theorem i_done_ok {key : Str} {I : IM} (O : Own h μ ρ) (R : ImpAt ρ I) (K : DoneI I.m key) (hq : ImpTo Q ρ I (.int .i64 ((idone I.m key).1 : Nat)) (idone I.m key).2) :
    EvQ P f_p_sched_Sched_Done [.pointer (some ⟨I.p, 0, none⟩), .string key] h Q := by
  have hnt : I.t.length ≤ 1000 := by simpa [IM.m, IM.ts] using K.nt
  have hnq : I.queue.length ≤ 100000 := K.nq
  have hnd : (mkeys I.ts).Nodup := K.nodup
  refine r_p_sched_Sched_Done ?_
  simp only [oB_some, bC_true, bC_false, vInt_int, vBool_bool, vStr_string, vPtr_pointer, vSl_slice, vMap_map, vFun_func, vAgg_agg, vTup_tuple, lC_cons, lN_nil, aP_some, shO_none, shO_some, Option.isNone_none, Option.isNone_some, Bool.not_true, Bool.not_false]
  obtain ⟨μ1, ρ1, c, O1, W1, hc⟩ := w_new O R [.string key]
  generalize h.addVar [.string key] = h1 at *
  generalize h.next = b at *
  refine w_rd O1 W1 1 (j := 0) rfl rfl ?_
  simp only [oB_some, bC_true, bC_false, vInt_int, vBool_bool, vStr_string, vPtr_pointer, vSl_slice, vMap_map, vFun_func, vAgg_agg, vTup_tuple, lC_cons, lN_nil, aP_some, shO_none, shO_some, Option.isNone_none, Option.isNone_some, Bool.not_true, Bool.not_false]
  refine w_rd O1 W1 0 (j := 0) rfl rfl ?_
  simp only [oB_some, bC_true, bC_false, vInt_int, vBool_bool, vStr_string, vPtr_pointer, vSl_slice, vMap_map, vFun_func, vAgg_agg, vTup_tuple, lC_cons, lN_nil, aP_some, shO_none, shO_some, Option.isNone_none, Option.isNone_some, Bool.not_true, Bool.not_false]
  refine i_look (l := I.t) O1 W1 2 rfl key ?_
  refine w_rd O1 W1 0 (j := 0) rfl rfl ?_
  simp only [oB_some, bC_true, bC_false, vInt_int, vBool_bool, vStr_string, vPtr_pointer, vSl_slice, vMap_map, vFun_func, vAgg_agg, vTup_tuple, lC_cons, lN_nil, aP_some, shO_none, shO_some, Option.isNone_none, Option.isNone_some, Bool.not_true, Bool.not_false]
  refine i_state_ok (I := I) O1 W1.self.tail' ?_
  simp only [oB_some, bC_true, bC_false, vInt_int, vBool_bool, vStr_string, vPtr_pointer, vSl_slice, vMap_map, vFun_func, vAgg_agg, vTup_tuple, lC_cons, lN_nil, aP_some, shO_none, shO_some, Option.isNone_none, Option.isNone_some, Bool.not_true, Bool.not_false]
  cases e : iget I.t key with
  | none =>
    have hm : mget I.ts key = none := by unfold IM.ts; rw [iget_m, e]; rfl
    have hs : mst I.ts key = 0 := by unfold mst; rw [hm]
    have hd : idone I.m key = (4, I.m) := by unfold idone; rw [show mget I.m.tasks key = none from hm]
    rw [hd] at hq
    rw [hs]
    exact hq _ _ _ I O1 (W1.tail hc).self rfl rfl (FrN.of (W1.tail hc).fra)
  | some x =>
    have hm : mget I.ts key = some x.m := by unfold IM.ts; rw [iget_m, e]; rfl
    have hs : mst I.ts key = x.m.st := by unfold mst; rw [hm]
    rw [hs]
    obtain ⟨hxk, j, hxj, hjl⟩ := iget_at e
    have hxm : x.m ∈ I.ts := List.mem_map.2 ⟨x, List.mem_of_getElem? hxj, rfl⟩
    simp only [Option.map_some, oB_some, bC_true, bC_false, vInt_int, vBool_bool, vStr_string, vPtr_pointer, vSl_slice, vMap_map, vFun_func, vAgg_agg, vTup_tuple, lC_cons, lN_nil, aP_some, shO_none, shO_some, Option.isNone_none, Option.isNone_some, Bool.not_true, Bool.not_false]
    refine bC_iff (fun e2 => ?_) (fun e2 => ?_)
    · -- busy
      have e2 : x.m.st = 2 := by simp at e2; omega
      refine w_rd O1 W1 0 (j := 0) rfl rfl ?_
      simp only [oB_some, bC_true, bC_false, vInt_int, vBool_bool, vStr_string, vPtr_pointer, vSl_slice, vMap_map, vFun_func, vAgg_agg, vTup_tuple, lC_cons, lN_nil, aP_some, shO_none, shO_some, Option.isNone_none, Option.isNone_some, Bool.not_true, Bool.not_false]
      refine i_leave_ok (I := I) O1 W1.self.tail' (by have := K.nsl; exact Nat.le_trans this (by omega)) (K.slot (show mst I.ts key = 2 by rw [hs]; exact e2)) fun h2 ρ2 O2 R2 => ?_
      let I2 : IM := { I with slots := ileave I.slots key }
      have W2 : Pcs ρ ρ2 (c :: I2.ns) (.var b [.string key] :: I2.rs) := by
        refine ⟨W1.nodup, by have := W1.len; simpa using this, fun q d r hd hr => ?_, fun d r hd hr => ?_⟩
        · cases q with
          | zero =>
            refine R2.fra d r ?_ (W1.at_ 0 d r (by simpa using hd) (by simpa using hr))
            simp at hd
            rw [← hd]; exact pcs_notin W1
          | succ q => exact R2.at_ q d r (by simpa using hd) (by simpa using hr)
        · exact R2.fra d r (fun hm => hd (List.mem_cons_of_mem _ hm)) (W1.fra d r hd hr)
      have hd : idone I.m key = (0, { ((x.m.ws.foldl (wake key) ⟨mupL I.ts key fun t => { t with st := 4 }, ileave I.slots key, I.queue⟩) : MI) with tasks := mupL (x.m.ws.foldl (wake key) ⟨mupL I.ts key fun t => { t with st := 4 }, ileave I.slots key, I.queue⟩).tasks key fun t => { t with ws := [] } }) := by
        unfold idone
        rw [show mget I.m.tasks key = some x.m from hm]
        simp only
        rw [if_pos (.inl e2), if_neg (by omega), if_pos e2]
        rw [mget_mupL (f := fun t => { t with st := 4 }) (fun _ => rfl), if_pos rfl, show mget I.m.tasks key = some x.m from hm]
        rfl
      refine done_tail (I := I2) hxj hxk hnd K.st (K.ws x.m hxm).1 (K.ws x.m hxm).2 (Nat.le_trans hnt (by omega)) (Nat.le_trans hnq (by omega)) hc O2 W2 fun h' μ' ρ' I' O' W' a b' c' => ?_
      rw [hd] at hq
      exact hq h' μ' ρ' I' O' (W'.self.names b'.symm) a c' ⟨b' ▸ W'.fra, fun d hd => .inl (by rw [b'] at hd; exact hd), fun d hd => by rw [b']; exact hd⟩
    refine bC_iff (fun e3 => ?_) (fun e3 => ?_)
    · -- waiting
      have e3 : x.m.st = 3 := by simp at e3; omega
      refine w_rd O1 W1 1 (j := 0) rfl rfl ?_
      simp only [oB_some, bC_true, bC_false, vInt_int, vBool_bool, vStr_string, vPtr_pointer, vSl_slice, vMap_map, vFun_func, vAgg_agg, vTup_tuple, lC_cons, lN_nil, aP_some, shO_none, shO_some, Option.isNone_none, Option.isNone_some, Bool.not_true, Bool.not_false]
      have hrx : (Res.var b [.string key] :: I.rs)[5 + (j * 2 + 0)]? = some (.var x.id x.cells) := by
        rw [show 5 + (j * 2 + 0) = (4 + (j * 2 + 0)) + 1 from by omega, List.getElem?_cons_succ]
        exact t_rs hxj (by omega)
      refine w_rd O1 W1 (5 + (j * 2 + 0)) (j := 1) hrx rfl ?_
      simp only [oB_some, bC_true, bC_false, vInt_int, vBool_bool, vStr_string, vPtr_pointer, vSl_slice, vMap_map, vFun_func, vAgg_agg, vTup_tuple, lC_cons, lN_nil, aP_some, shO_none, shO_some, Option.isNone_none, Option.isNone_some, Bool.not_true, Bool.not_false]
      obtain ⟨ty, hty⟩ := K.on x.m hxm e3
      obtain ⟨y, i, hy, hym, hyi, hil, hyk⟩ := iget_of (I := I) hty
      refine i_look (l := I.t) O1 W1 2 rfl x.m.on ?_
      simp only [hy, Option.map_some, oB_some, bC_true, bC_false, vInt_int, vBool_bool, vStr_string, vPtr_pointer, vSl_slice, vMap_map, vFun_func, vAgg_agg, vTup_tuple, lC_cons, lN_nil, aP_some, shO_none, shO_some, Option.isNone_none, Option.isNone_some, Bool.not_true, Bool.not_false]
      have hry : ∀ {k : Nat} {r : Res}, k < 2 → y.rs[k]? = some r → (Res.var b [.string key] :: I.rs)[5 + (i * 2 + k)]? = some r := fun {k r} hk hr => by
        rw [show 5 + (i * 2 + k) = (4 + (i * 2 + k)) + 1 from by omega, List.getElem?_cons_succ]
        exact (t_rs hyi hk).trans hr
      have hyM : y.m ∈ I.ts := List.mem_map.2 ⟨y, List.mem_of_getElem? hyi, rfl⟩
      refine w_rd O1 W1 (5 + (i * 2 + 0)) (j := 2) (hry (by omega) rfl) rfl ?_
      simp only [oB_some, bC_true, bC_false, vInt_int, vBool_bool, vStr_string, vPtr_pointer, vSl_slice, vMap_map, vFun_func, vAgg_agg, vTup_tuple, lC_cons, lN_nil, aP_some, shO_none, shO_some, Option.isNone_none, Option.isNone_some, Bool.not_true, Bool.not_false]
      have hn2 : (c :: I.ns)[5 + (i * 2 + 1)]? = some y.n2 := by
        rw [show 5 + (i * 2 + 1) = (4 + (i * 2 + 1)) + 1 from by omega, List.getElem?_cons_succ]
        exact t_ns hyi (by omega)
      have hcy := W1.at_ _ _ _ hn2 (hry (by omega) rfl)
      have hcb := W1.at_ 0 _ _ rfl rfl
      have hcne : c ≠ y.n2 := fun e => by rw [e, hcy] at hcb; cases hcb
      refine del_ok (p := fun s => bEq s key) (c0 := y.n2) ?_ (by have := (K.ws y.m hyM).1; omega) O1 hcy fun h2 μ2 ρ2 O2 V2 => ?_
      · intro h' μ' ρ' s Q' O' F' hQ
        refine done_fn ?_ hQ
        have hc' := F' c _ (by simpa using hcne) hcb
        exact o_rd O' hc' (j := 0) rfl rfl
      simp only [oB_some, bC_true, bC_false, vInt_int, vBool_bool, vStr_string, vPtr_pointer, vSl_slice, vMap_map, vFun_func, vAgg_agg, vTup_tuple, lC_cons, lN_nil, aP_some, shO_none, shO_some, Option.isNone_none, Option.isNone_some, Bool.not_true, Bool.not_false]
      have W2 := W1.put hn2 V2
      have hr2 : ∀ {r : Res}, ((Res.var b [.string key] :: I.rs).set (5 + (i * 2 + 1)) r)[5 + (i * 2 + 0)]? = some (.var y.id y.cells) := fun {r} => by
        rw [List.getElem?_set_ne (by omega)]
        exact hry (by omega) rfl
      refine w_wr O2 W2 (5 + (i * 2 + 0)) (j := 2) hr2 (show 2 < 4 by omega) rfl fun h3 ρ3 O3 W3 => ?_
      let y1 : IT := { y with m := { y.m with ws := y.m.ws.filter fun k => !bEq k key } }
      let I1 : IM := I.up i y1
      have hns1 : I1.ns = I.ns := congrArg (fun l => I.n0 :: I.n1 :: I.n2 :: I.n3 :: l) (ns_set (x' := y1) hyi rfl)
      have hts1 : I1.ts = mupL I.ts x.m.on fun t => { t with ws := t.ws.filter fun k => !bEq k key } := by
        show (I.up i y1).ts = _
        rw [up_ts]
        exact mupL_set (f := fun t => { t with ws := t.ws.filter fun k => !bEq k key }) hnd (show I.ts[i]? = some y.m by simp [IM.ts, hyi]) hyk
      have hk1 : mkeys I1.ts = mkeys I.ts := by rw [hts1]; exact mupL_keys (f := fun t => { t with ws := t.ws.filter fun k => !bEq k key }) (fun _ => rfl) _
      have hyst := K.st y.m hyM
      have W3 : Pcs ρ ρ3 (c :: I1.ns) (.var b [.string key] :: I1.rs) := by
        refine (W3.names (by rw [hns1])).eq ?_
        rw [show 5 + (i * 2 + 0) = (4 + (i * 2 + 0)) + 1 from by omega, show 5 + (i * 2 + 1) = (4 + (i * 2 + 1)) + 1 from by omega]
        simp only [List.set_cons_succ]
        rw [t_set2 (x' := y1) (ra := .var y.id (y.cells.set 2 (.slice y.wa (y.m.ws.filter fun s => !bEq s key).length y.wc))) (rb := .sl y.wa y.wc 1 (strs (y.m.ws.filter fun s => !bEq s key))) hyi rfl]
        have h1 : I.head = I1.head := by
          have g1 := fun s => manyOf_set (l := I.ts) (j := i) (t := y.m) (t' := y1.m) (by simp [IM.ts, hyi]) (by omega) (show y.m.st ≠ 0 by omega) s
          have g4 : I1.ts = I.ts.set i y1.m := up_ts
          have g5 : ∀ s, manyOf I1.ts s = manyOf I.ts s := fun s => by rw [g4, g1 s]; show _ - (if y.m.st = s then 1 else 0) + (if y.m.st = s then 1 else 0) = _; omega
          unfold IM.head
          simp only [g5]
          rfl
        have h2 : ents I1.t = ents I.t := up_ents (x' := y1) hyi rfl rfl
        rw [h1, ← h2]
      obtain ⟨t1, ht1⟩ : ∃ t, mget I1.ts key = some t := by
        have := mget_keys key hk1
        rw [hm] at this
        exact isSome_ex (by simpa using this)
      obtain ⟨x1, j1, hx1, hx1m, hx1j, hj1l, hx1k⟩ := iget_of ht1
      have hid : x1.id = x.id ∧ j1 = j := by
        have hj1 : j1 = j := by
          have hnd1 : (mkeys I1.ts).Nodup := by rw [hk1]; exact hnd
          have h1 : (mkeys I1.ts)[j1]? = some key := by simp [mkeys, IM.ts, hx1j, hx1k]
          have h2 : (mkeys I1.ts)[j]? = some key := by rw [hk1]; simp [mkeys, IM.ts, hxj, hxk]
          have a1 := List.getElem?_eq_some_iff.1 h1
          have a2 := List.getElem?_eq_some_iff.1 h2
          exact (List.getElem_inj (h₀ := a1.1) (h₁ := a2.1) hnd1).1 (by rw [a1.2, a2.2])
        subst hj1
        refine ⟨?_, rfl⟩
        have : (I.t.set i y1)[j1]? = some x1 := hx1j
        rw [List.getElem?_set] at this
        split at this
        · rename_i eij
          subst eij
          first | rw [if_pos hil] at this | skip
          cases this
          rw [hxj] at hyi; cases hyi; rfl
        · rw [hxj] at this; cases this; rfl
      obtain ⟨hid, rfl⟩ := hid
      have hst1 : ∀ t, t ∈ I1.ts → 1 ≤ t.st ∧ t.st ≤ 4 := fun t ht => by
        rw [hts1] at ht
        obtain ⟨z, hz, e⟩ := List.mem_map.1 ht
        have := K.st z hz
        rw [← e]; split <;> exact this
      have hws1 : x1.m.ws.length ≤ 1000 ∧ ∀ k, k ∈ x1.m.ws → ∃ t', mget I.ts k = some t' := by
        have : x1.m ∈ I1.ts := List.mem_map.2 ⟨x1, List.mem_of_getElem? hx1j, rfl⟩
        rw [hts1] at this
        obtain ⟨z, hz, e⟩ := List.mem_map.1 this
        have hz' := K.ws z hz
        rw [← e]
        split
        · refine ⟨Nat.le_trans (List.length_filter_le _ _) hz'.1, fun k hk => hz'.2 k (List.mem_filter.1 hk).1⟩
        · exact hz'
      have hd : idone I.m key = (0, { ((x1.m.ws.foldl (wake key) ⟨mupL I1.ts key fun t => { t with st := 4 }, I.slots, I.queue⟩) : MI) with tasks := mupL (x1.m.ws.foldl (wake key) ⟨mupL I1.ts key fun t => { t with st := 4 }, I.slots, I.queue⟩).tasks key fun t => { t with ws := [] } }) := by
        unfold idone
        rw [show mget I.m.tasks key = some x.m from hm]
        simp only
        rw [if_pos (.inr e3), if_pos e3, if_neg (by omega)]
        rw [mget_mupL (f := fun t => { t with st := 4 }) (fun _ => rfl), if_pos rfl]
        rw [show mupL I.m.tasks x.m.on (fun t => { t with ws := t.ws.filter fun k => !bEq k key }) = I1.ts from hts1.symm]
        rw [ht1, ← hx1m]
        rfl
      rw [← hid]
      refine done_tail (I := I1) hx1j hx1k (by rw [hk1]; exact hnd) hst1 hws1.1 (fun k hk => ?_) (by simp only [I1, List.length_set]; omega) (Nat.le_trans hnq (by omega)) hc O3 W3 fun h' μ' ρ' I' O' W' a b' c' => ?_
      · obtain ⟨t', h'⟩ := hws1.2 k hk
        have := mget_keys k hk1
        rw [h'] at this
        exact isSome_ex (by simpa using this)
      · rw [hd] at hq
        have b'' : I'.ns = I.ns := b'.trans hns1
        exact hq h' μ' ρ' I' O' (W'.self.names b'.symm) a c' ⟨hns1 ▸ W'.fra, fun d hd => .inl (by rw [b''] at hd; exact hd), fun d hd => by rw [b'']; exact hd⟩
    · have hd : idone I.m key = (4, I.m) := by
        unfold idone
        rw [show mget I.m.tasks key = some x.m from hm]
        simp only
        rw [if_neg]
        simp at e2 e3
        omega
      rw [hd] at hq
      exact hq _ _ _ I O1 (W1.tail hc).self rfl rfl (FrN.of (W1.tail hc).fra)
/-- How many slots. -/
def slotsOf (n : Int) : Nat := (if 64 < (if 1 > n then 1 else n) then 64 else if 1 > n then 1 else n).toNat
theorem slotsOf_eq (n : Int) : (if 64 < (if 1 > n then 1 else n) then 64 else if 1 > n then 1 else n) = (slotsOf n : Int) := by
  unfold slotsOf
  split <;> split <;> omega
theorem slotsOf_range (n : Int) : 1 ≤ slotsOf n ∧ slotsOf n ≤ 64 := by
  unfold slotsOf
  split <;> split <;> omega
theorem i_new_ok {n : Int} (O : Own h μ ρ) (hq : ∀ h' μ' ρ' (I : IM), Own h' μ' ρ' → Pcs ρ ρ' I.ns I.rs → I.m = ⟨[], List.replicate (slotsOf n) e0, []⟩ → (∀ c, c ∈ I.ns → ρ c = none) → Q (.pointer (some ⟨I.p, 0, none⟩)) h') :
    EvQ P f_sched_New [.int .i64 n] h Q := by
  refine r_sched_New ?_
  rw [slotsOf_eq]
  have hr := slotsOf_range n
  obtain ⟨cm, hcm⟩ := O.fresh
  have O1 := o_addMap O cm
  have W1 : Pcs ρ (ρ.upd cm (.map h.next [])) [cm] [.map h.next []] := p0.new hcm _
  refine w_make (P := P) O1 W1 ti_ty_sl_string ti_ty_string (slotsOf n) rfl ?_ (by omega) (by omega) fun h2 μ2 ρ2 cs sa O2 W2 hcs => ?_
  · show allOne (rep [.string _] _) = true
    rw [rep_one]; exact allOne_of fun v hv => by rw [(List.mem_replicate.1 hv).2]; rfl
  simp only [oB_some, bC_true, bC_false, vInt_int, vBool_bool, vStr_string, vPtr_pointer, vSl_slice, vMap_map, vFun_func, vAgg_agg, vTup_tuple, lC_cons, lN_nil, aP_some, shO_none, shO_some, Option.isNone_none, Option.isNone_some, Bool.not_true, Bool.not_false]
  obtain ⟨ρ3, cq, O3, W3, hcq⟩ := w_nil O2 W2 1
  obtain ⟨μ4, ρ4, c0, O4, W4, hc0⟩ := w_new O3 W3 [.map (some h.next), .slice sa (slotsOf n) (slotsOf n), .slice none 0 0, .int .i64 0, .int .i64 0, .int .i64 0, .int .i64 0, .int .i64 0]
  let I : IM := ⟨[], List.replicate (slotsOf n) e0, [], c0, cm, cs, cq, h2.next, h.next, sa, slotsOf n, none, 0⟩
  refine hq _ _ _ I O4 ?_ rfl ?_
  · have hnd := W4.nodup
    have a0 := W4.at_ 0 _ _ rfl rfl
    have a1 := W4.at_ 1 _ _ rfl rfl
    have a2 := W4.at_ 2 _ _ rfl rfl
    have a3 := W4.at_ 3 _ _ rfl rfl
    refine ⟨?_, rfl, fun i c r hc hr => ?_, fun c r hn hc => W4.fra c r (fun hm => hn ?_) hc⟩
    · simp only [I, List.flatMap_nil]
      simp only [List.nodup_cons, List.mem_cons, List.not_mem_nil, or_false, not_or, not_false_eq_true, true_and, and_true, List.nodup_nil] at hnd ⊢
      simp only [List.flatMap_nil, List.not_mem_nil, List.nodup_nil, not_false_eq_true, and_true]
      omega
    · match i with
      | 0 => simp [I] at hc hr; subst hc hr; rw [a0]; simp [IM.head, IM.ts, manyOf]
      | 1 => simp [I] at hc hr; subst hc hr; rw [a3]; simp [ents, keyd]
      | 2 => simp [I] at hc hr; subst hc hr; rw [a2]; show some (Res.sl sa _ 1 (rep [.string e0] _)) = _; rw [rep_one]
      | 3 => simp [I] at hc hr; subst hc hr; rw [a1]
      | k + 4 => simp [I] at hc
    · simp only [I, List.flatMap_nil, List.mem_cons, List.not_mem_nil, or_false] at hm ⊢
      rcases hm with x | x | x | x <;> simp [x]
  · intro c hc
    simp only [I, List.flatMap_nil, List.mem_cons, List.not_mem_nil, or_false] at hc
    rcases hc with rfl | rfl | rfl | rfl
    · exact hc0
    · exact hcm
    · exact hcs
    · exact hcq
end Go.Proofs.YtgdkekdedgkglaaDoor
end

section
/- The scheduler: what its functions come to where the invariant holds. -/
namespace Go.Proofs.YtgdkekdedgkglaaDoor
open Go.Abs Go.Abs.Sch
set_option maxRecDepth 100000
attribute [local irreducible] unitAt EvQ
variable {h : AW} {μ : Paint} {ρ : Store} {Q : Value → AW → Prop}

theorem fillI_of {m : MI} {B : Nat} (K : IOk m) (S : Sz m B) (hB : B ≤ 900000) : FillI m m.slots.length :=
  ⟨K.nodup, fun k hk => let ⟨t, ht, _⟩ := K.ig.q1 k hk; ⟨t, ht⟩, fun t ht => K.ig.st t.key t (K.mem ht), fun t ht => by have := S.st t ht; have := S.ns; omega, by have := S.nt; omega, by have := K.queue_le; have := S.nt; omega⟩
theorem waitI_of {m : MI} {B : Nat} {key : Str} (K : IOk m) (S : Sz m B) : WaitI m key :=
  ⟨K.nodup, fun t ht => K.ig.st t.key t (K.mem ht), fun t ht h3 => let ⟨t', h', _⟩ := K.ig.w2 t.key t (K.mem ht) h3; ⟨t', h'⟩, fun h => let ⟨t, ht, h2⟩ := mst_some h (by omega); K.ig.s2 key t ht h2,
    fun t ht => by have := K.ws_le ht; have := S.nt; omega, by have := S.nt; omega, by have := K.queue_le; have := S.nt; omega, by have := S.ns; omega⟩
theorem doneI_of {m : MI} {B : Nat} {key : Str} (K : IOk m) (S : Sz m B) : DoneI m key :=
  ⟨K.nodup, fun t ht => K.ig.st t.key t (K.mem ht), fun t ht h3 => let ⟨t', h', _⟩ := K.ig.w2 t.key t (K.mem ht) h3; ⟨t', h'⟩, fun h => let ⟨t, ht, h2⟩ := mst_some h (by omega); K.ig.s2 key t ht h2,
    fun t ht => ⟨by have := K.ws_le ht; have := S.nt; omega, fun k hk => let ⟨t', h', _⟩ := K.ig.w1 t.key t (K.mem ht) k hk; ⟨t', h'⟩⟩, by have := S.nt; omega, by have := K.queue_le; have := S.nt; omega, by have := S.ns; omega⟩

/-- A scheduler of this state stands. -/
def At (ρ : Store) (I : IM) (m : MI) : Prop := ImpAt ρ I ∧ I.m = m
theorem At.ts {I : IM} {m : MI} (A : At ρ I m) : I.ts = m.tasks := by rw [← A.2]; rfl
theorem At.slots {I : IM} {m : MI} (A : At ρ I m) : I.slots = m.slots := by rw [← A.2]; rfl
theorem At.queue {I : IM} {m : MI} (A : At ρ I m) : I.queue = m.queue := by rw [← A.2]; rfl
theorem At.tl {I : IM} {m : MI} (A : At ρ I m) : I.t.length = m.tasks.length := by rw [← A.ts]; simp [IM.ts]
theorem At.keep {ns ms : List Nat} {ρ' : Store} {I : IM} {m : MI} (A : At ρ I m) (F : FrN ns ρ ms ρ') (hd : ∀ c, c ∈ ns → c ∉ I.ns) : At ρ' I m := ⟨A.1.keep F.1 hd, A.2⟩
/-- What a call may do: the scheduler's own names. -/
def Acts (Q : Value → AW → Prop) (ρ : Store) (I : IM) (v : Value) (m' : MI) : Prop :=
  ∀ h' μ' ρ' (I' : IM), Own h' μ' ρ' → At ρ' I' m' → I'.p = I.p → FrN I.ns ρ I'.ns ρ' → Q v h'
/-- The same, and a fresh slice of strings. -/
def ActsS (F : Option Addr → Nat → AW → Prop) (ρ : Store) (I : IM) (x : List Str) (m' : MI) : Prop :=
  ∀ h' μ' ρ' (I' : IM) co oa oc, Own h' μ' ρ' → At ρ' I' m' → I'.p = I.p → FrN I.ns ρ I'.ns ρ' → ρ co = none → co ∉ I'.ns → ρ' co = some (.sl oa oc 1 (strs x)) → F oa oc h'
theorem a_want {ks : List Str} {a : Option Addr} {c B : Nat} {I : IM} {m : MI} (O : Own h μ ρ) (A : At ρ I m) (K : IOk m) (S : Sz m B) (hk : ks.length ≤ 1000) (X : Rd ρ I.ns a (strs ks)) (hq : Acts Q ρ I (.int .i64 ((iwant m ks).1 : Nat)) (iwant m ks).2) :
    EvQ P f_p_sched_Sched_Want [.pointer (some ⟨I.p, 0, none⟩), .slice a ks.length c] h Q := by
  have h1 := A.tl
  have h2 := K.queue_le
  have h3 := S.nt
  refine i_want_ok (by omega) O A.1 X (by omega) (by rw [A.queue]; omega) ?_
  rw [A.2]
  exact fun h' μ' ρ' I' O' R' a b F => hq h' μ' ρ' I' O' ⟨R', a⟩ b F
theorem a_fill {B : Nat} {I : IM} {m : MI} (O : Own h μ ρ) (A : At ρ I m) (K : IOk m) (S : Sz m B) (hB : B ≤ 900000)
    (hq : ActsS (fun oa oc h' => Q (.slice oa (ifillFrom m.slots.length m [] 0).2.length oc) h') ρ I (ifillFrom m.slots.length m [] 0).2 (ifillFrom m.slots.length m [] 0).1) :
    EvQ P f_p_sched_Sched_Fill [.pointer (some ⟨I.p, 0, none⟩)] h Q := by
  obtain ⟨A1, rfl⟩ := A
  refine i_fill_ok O A1 (by have := S.ns; exact Nat.le_trans this (by omega)) (fillI_of K S hB) fun h' μ' ρ' I' co oa oc O' W' hco a b c => ?_
  have hn := pcs_notin W'
  have W2 := W'.tail hco
  refine hq h' μ' ρ' I' co oa oc O' ⟨(W2.self.names b.symm), a⟩ c ⟨W2.fra, fun d hd => .inl (by rw [b] at hd; exact hd), fun d hd => by rw [b]; exact hd⟩ hco (by rw [b]; exact hn) (W'.at_ 0 _ _ rfl rfl)
theorem a_pick {B : Nat} {I : IM} {m : MI} {n : Int} (O : Own h μ ρ) (A : At ρ I m) (K : IOk m) (S : Sz m B) (h0 : 0 < m.slots.length) (hq : ∀ h' μ' ρ', Own h' μ' ρ' → At ρ' I m → FrN I.ns ρ I.ns ρ' → Q (ipickV m.slots n) h') :
    EvQ P f_p_sched_Sched_Pick [.pointer (some ⟨I.p, 0, none⟩), .int .i64 n] h Q := by
  obtain ⟨A1, rfl⟩ := A
  refine i_pick_ok O A1 h0 (by have := S.ns; exact Nat.le_trans this (by omega)) (K.pick h0 n) fun h' μ' ρ' O' W' => ?_
  exact hq h' μ' ρ' O' ⟨W'.self, rfl⟩ (FrN.of W'.fra)
theorem a_wait {B : Nat} {I : IM} {m : MI} {key on : Str} (O : Own h μ ρ) (A : At ρ I m) (K : IOk m) (S : Sz m B)
    (hq : ActsS (fun oa oc h' => Q (.tuple ⟨[.slice oa (iwait m key on).1.length oc, .int .i64 ((iwait m key on).2.1 : Nat)]⟩) h') ρ I (iwait m key on).1 (iwait m key on).2.2) :
    EvQ P f_p_sched_Sched_Wait [.pointer (some ⟨I.p, 0, none⟩), .string key, .string on] h Q := by
  obtain ⟨A1, rfl⟩ := A
  refine i_wait_ok O A1 (waitI_of K S) fun h' μ' ρ' I' co oa oc O' W' a hco b F => ?_
  exact hq h' μ' ρ' I' co oa oc O' ⟨W'.tail', a⟩ b F hco (pcs_notin W') (W'.at_ 0 _ _ rfl rfl)
theorem a_done {B : Nat} {I : IM} {m : MI} {key : Str} (O : Own h μ ρ) (A : At ρ I m) (K : IOk m) (S : Sz m B) (hq : Acts Q ρ I (.int .i64 ((idone m key).1 : Nat)) (idone m key).2) :
    EvQ P f_p_sched_Sched_Done [.pointer (some ⟨I.p, 0, none⟩), .string key] h Q := by
  obtain ⟨A1, rfl⟩ := A
  exact i_done_ok O A1 (doneI_of K S) fun h' μ' ρ' I' O' R' a b F => hq h' μ' ρ' I' O' ⟨R', a⟩ b F
theorem a_state {I : IM} {m : MI} {k : Str} (O : Own h μ ρ) (A : At ρ I m) (hq : Q (.int .i64 (mst m.tasks k : Nat)) h) : EvQ P f_p_sched_Sched_State [.pointer (some ⟨I.p, 0, none⟩), .string k] h Q :=
  i_state_ok O A.1 (by rw [A.ts]; exact hq)
theorem a_starts {I : IM} {m : MI} {k : Str} (O : Own h μ ρ) (A : At ρ I m) (hq : Q (.int .i64 (mstarts m.tasks k : Nat)) h) : EvQ P f_p_sched_Sched_Starts [.pointer (some ⟨I.p, 0, none⟩), .string k] h Q :=
  i_starts_ok O A.1 (by rw [A.ts]; exact hq)
theorem a_over {B : Nat} {I : IM} {m : MI} (O : Own h μ ρ) (A : At ρ I m) (S : Sz m B) (hq : Q (.bool (!ilive m.tasks && (manyOf m.tasks 3 == 0))) h) : EvQ P f_p_sched_Sched_Over [.pointer (some ⟨I.p, 0, none⟩)] h Q :=
  i_over_ok O A.1 (by have := A.tl; have := S.nt; omega) (by rw [A.ts]; exact hq)
theorem a_stuck {B : Nat} {I : IM} {m : MI} (O : Own h μ ρ) (A : At ρ I m) (S : Sz m B) (hq : Q (.bool (!ilive m.tasks && decide (manyOf m.tasks 3 > 0))) h) : EvQ P f_p_sched_Sched_Stuck [.pointer (some ⟨I.p, 0, none⟩)] h Q :=
  i_stuck_ok O A.1 (by have := A.tl; have := S.nt; omega) (by rw [A.ts]; exact hq)
theorem a_queue {B : Nat} {I : IM} {m : MI} (O : Own h μ ρ) (A : At ρ I m) (K : IOk m) (S : Sz m B) (hq : NewS Q ρ m.queue) : EvQ P f_p_sched_Sched_Queue [.pointer (some ⟨I.p, 0, none⟩)] h Q :=
  i_queue_ok O A.1 (by rw [A.queue]; have := K.queue_le; have := S.nt; omega) (by rw [A.queue]; exact hq)
theorem a_slots {B : Nat} {I : IM} {m : MI} (O : Own h μ ρ) (A : At ρ I m) (S : Sz m B) (hq : NewS Q ρ m.slots) : EvQ P f_p_sched_Sched_Slots [.pointer (some ⟨I.p, 0, none⟩)] h Q :=
  i_slots_ok O A.1 (by rw [A.slots]; have := S.ns; omega) (by rw [A.slots]; exact hq)
theorem a_new {n : Int} (O : Own h μ ρ) (hq : ∀ h' μ' ρ' (I : IM), Own h' μ' ρ' → At ρ' I ⟨[], List.replicate (slotsOf n) e0, []⟩ → Fra [] ρ ρ' → (∀ c, c ∈ I.ns → ρ c = none) → Q (.pointer (some ⟨I.p, 0, none⟩)) h') : EvQ P f_sched_New [.int .i64 n] h Q :=
  i_new_ok O fun h' μ' ρ' I O' W' a hf => hq h' μ' ρ' I O' ⟨W'.self, a⟩ (fun c r _ hc => W'.fra c r (fun hm => by rw [hf c hm] at hc; cases hc) hc) hf
end Go.Proofs.YtgdkekdedgkglaaDoor
end

section
/- Rules of walks, printed by a program of ours: group Law. -/
namespace Go.Proofs.YtgdkekdedgkglaaDoor
open Go.Abs
set_option maxRecDepth 100000
theorem r_brickyardlaw20_SchedTurns {n1 : Int} {n2 : Int} {p3 : Option Addr} {m4 : Nat} {m5 : Nat} {h : AW} {Q : Value → AW → Prop} (H : EvQ P f_brickyardlaw20_works [] h fun v6 h7 => vBool v6 fun b8 => bC (!b8) (Q
  (Value.bool false) h7) (bC (decide (n2 < 0)) (Q (Value.bool true) h7) (bC (decide (n2 > 60)) (Q (Value.bool true) h7) (EvQ P f_sched_New [Value.int IntKind.i64 n1] h7 fun v9 h10 => vPtr
  v9 fun p11 => bC (Option.isNone p11) (Q (Value.bool false) h10) (unitAt P f_brickyardlaw20_SchedTurns 10 [1, 2, 7, 8, 9, 27, 28] [Value.int IntKind.i64 n2, Value.slice p3 m4 m5, Value.pointer p11,
  Value.slice none 0 0, Value.slice none 0 0, Value.int IntKind.i64 n2, Value.int IntKind.i64 0] h10 Q))))) : EvQ P f_brickyardlaw20_SchedTurns [Value.int IntKind.i64 n1, Value.int IntKind.i64 n2,
  Value.slice p3 m4 m5] h Q := fn_ok (n := 400) (ann := annOf [(10, [1, 2, 7, 8, 9, 27, 28]), (17, [1, 2, 7, 8, 9, 11]), (25, [1, 2, 7, 8, 9, 11, 12])]) (Eq.mp (by kernel_rfl) H)
theorem r_brickyardlaw20_SchedTurns_10 {n1 : Int} {p2 : Option Addr} {m3 : Nat} {m4 : Nat} {p5 : Option Addr} {p6 : Option Addr} {m7 : Nat} {m8 : Nat} {p9 : Option Addr} {m10 : Nat} {m11 : Nat} {n12 :
  Int} {n13 : Int} {h : AW} {Q : Value → AW → Prop} (H : bC (decide (n13 < n12)) (EvQ P f_brickyardlaw20_name [Value.int IntKind.i64 n13] h fun v14 h15 => vStr v14 fun s16 => oP (appendB P
  (AW.addVar h15 [Value.string s16]) (Array.mk [ty_sl_string, ty_sl_string]) [Value.slice p6 m7 m8, Value.slice (some (Addr.mk (AW.next h15) 0 none)) 1 1]) fun v17 h18 => vSl v17 fun p19 m20 m21
  => unitAt P f_brickyardlaw20_SchedTurns 10 [1, 2, 7, 8, 9, 27, 28] [Value.int IntKind.i64 n1, Value.slice p2 m3 m4, Value.pointer p5, Value.slice p19 m20 m21, Value.slice p9 m10 m11, Value.int
  IntKind.i64 n12, Value.int IntKind.i64 (IntKind.wrap IntKind.i64 (n13 + 1))] h18 Q) (EvQ P f_p_sched_Sched_Want [Value.pointer p5, Value.slice p6 m7 m8] h fun v22 h23 => vInt IntKind.i64 v22 fun
  n24 => bC (n24 != 0) (Q (Value.bool false) h23) (EvQ P f_p_sched_Sched_Want [Value.pointer p5, Value.slice p6 m7 m8] h23 fun v25 h26 => vInt IntKind.i64 v25 fun n27 => bC (n27 != 0) (Q
  (Value.bool false) h26) (unitAt P f_brickyardlaw20_SchedTurns 17 [1, 2, 7, 8, 9, 11] [Value.int IntKind.i64 n1, Value.slice p2 m3 m4, Value.pointer p5, Value.slice p6 m7 m8, Value.slice p9 m10 m11,
  Value.int IntKind.i64 0] h26 Q)))) : unitAt P f_brickyardlaw20_SchedTurns 10 [1, 2, 7, 8, 9, 27, 28] [Value.int IntKind.i64 n1, Value.slice p2 m3 m4, Value.pointer p5, Value.slice p6 m7 m8, Value.slice
  p9 m10 m11, Value.int IntKind.i64 n12, Value.int IntKind.i64 n13] h Q := unit_ok (n := 400) (ann := annOf [(10, [1, 2, 7, 8, 9, 27, 28]), (17, [1, 2, 7, 8, 9, 11]), (25, [1, 2,
  7, 8, 9, 11, 12])]) (Eq.mp (by kernel_rfl) H)
theorem r_brickyardlaw20_SchedTurns_17 {n1 : Int} {p2 : Option Addr} {m3 : Nat} {m4 : Nat} {p5 : Option Addr} {p6 : Option Addr} {m7 : Nat} {m8 : Nat} {p9 : Option Addr} {m10 : Nat} {m11 : Nat} {n12 :
  Int} {h : AW} {Q : Value → AW → Prop} (H : EvQ P f_p_sched_Sched_Over [Value.pointer p5] h fun v13 h14 => vBool v13 fun b15 => bC (!b15) (bC (decide (n12 > n1)) (Q (Value.bool false) h14) (EvQ P
  f_p_sched_Sched_Fill [Value.pointer p5] h14 fun v16 h17 => vSl v16 fun p18 m19 m20 => oP (appendB P h17 (Array.mk [ty_sl_string, ty_sl_string]) [Value.slice p9 m10 m11, Value.slice p18 m19 m20]) fun v21 h22
  => vSl v21 fun p23 m24 m25 => bC (decide ((↑m3 : Int) > 0)) (bC (decide ((↑m3 : Int) = 0)) False (aP p2 fun m26 m27 => oB (natIdx (Int.tmod n12 (↑m3 : Int)) m3) fun m28 => oB
  (AW.rd h22 m26 (m27 + m28 * 1)) fun v29 => vInt IntKind.i64 v29 fun n30 => unitAt P f_brickyardlaw20_SchedTurns 25 [1, 2, 7, 8, 9, 11, 12] [Value.int IntKind.i64 n1, Value.slice p2 m3 m4, Value.pointer
  p5, Value.slice p6 m7 m8, Value.slice p23 m24 m25, Value.int IntKind.i64 n12, Value.int IntKind.i64 n30] h22 Q)) (unitAt P f_brickyardlaw20_SchedTurns 25 [1, 2, 7, 8, 9, 11, 12] [Value.int IntKind.i64
  n1, Value.slice p2 m3 m4, Value.pointer p5, Value.slice p6 m7 m8, Value.slice p23 m24 m25, Value.int IntKind.i64 n12, Value.int IntKind.i64 0] h22 Q))) (EvQ P f_slices_Equal_sl_string_string [Value.slice
  p9 m10 m11, Value.slice p6 m7 m8] h14 fun v31 h32 => vBool v31 fun b33 => Q (Value.bool b33) h32)) : unitAt P f_brickyardlaw20_SchedTurns 17 [1, 2, 7, 8, 9, 11] [Value.int IntKind.i64 n1, Value.slice p2
  m3 m4, Value.pointer p5, Value.slice p6 m7 m8, Value.slice p9 m10 m11, Value.int IntKind.i64 n12] h Q := unit_ok (n := 400) (ann := annOf [(10, [1, 2, 7, 8, 9, 27, 28]), (17, [1,
  2, 7, 8, 9, 11]), (25, [1, 2, 7, 8, 9, 11, 12])]) (Eq.mp (by kernel_rfl) H)
theorem r_brickyardlaw20_SchedTurns_25 {n1 : Int} {p2 : Option Addr} {m3 : Nat} {m4 : Nat} {p5 : Option Addr} {p6 : Option Addr} {m7 : Nat} {m8 : Nat} {p9 : Option Addr} {m10 : Nat} {m11 : Nat} {n12 :
  Int} {n13 : Int} {h : AW} {Q : Value → AW → Prop} (H : EvQ P f_p_sched_Sched_Pick [Value.pointer p5, Value.int IntKind.i64 n13] h fun v14 h15 => vTup v14 fun l16 => lC l16 fun v17 l18 => vStr
  v17 fun s19 => lC l18 fun v20 l21 => vBool v20 fun b22 => lN l21 (bC (!b22) (Q (Value.bool false) h15) (EvQ P f_p_sched_Sched_Done [Value.pointer p5, Value.string s19] h15 fun v23 h24 => vInt
  IntKind.i64 v23 fun n25 => bC (n25 != 0) (Q (Value.bool false) h24) (EvQ P f_p_sched_Sched_Done [Value.pointer p5, Value.string s19] h24 fun v26 h27 => vInt IntKind.i64 v26 fun n28 => bC (n28 !=
  4) (Q (Value.bool false) h27) (EvQ P f_p_sched_Sched_Starts [Value.pointer p5, Value.string s19] h27 fun v29 h30 => vInt IntKind.i64 v29 fun n31 => bC (n31 != 1) (Q (Value.bool false) h30) (unitAt
  P f_brickyardlaw20_SchedTurns 17 [1, 2, 7, 8, 9, 11] [Value.int IntKind.i64 n1, Value.slice p2 m3 m4, Value.pointer p5, Value.slice p6 m7 m8, Value.slice p9 m10 m11, Value.int IntKind.i64 (IntKind.wrap
  IntKind.i64 (n12 + 1))] h30 Q)))))) : unitAt P f_brickyardlaw20_SchedTurns 25 [1, 2, 7, 8, 9, 11, 12] [Value.int IntKind.i64 n1, Value.slice p2 m3 m4, Value.pointer p5, Value.slice p6 m7 m8, Value.slice
  p9 m10 m11, Value.int IntKind.i64 n12, Value.int IntKind.i64 n13] h Q := unit_ok (n := 400) (ann := annOf [(10, [1, 2, 7, 8, 9, 27, 28]), (17, [1, 2, 7, 8, 9, 11]), (25, [1, 2,
  7, 8, 9, 11, 12])]) (Eq.mp (by kernel_rfl) H)
theorem r_brickyardlaw20_works {h : AW} {Q : Value → AW → Prop} (H : EvQ P f_sched_New [Value.int IntKind.i64 2] h fun v1 h2 => vPtr v1 fun p3 => bC (Option.isNone p3) (Q (Value.bool false) h2) (EvQ P
  f_p_sched_Sched_Want [Value.pointer p3, Value.slice (some (Addr.mk (AW.next h2) 0 none)) 3 3] (AW.addVar h2 [Value.string (ByteArray.mk #[97]), Value.string (ByteArray.mk #[98]), Value.string
  (ByteArray.mk #[99])]) fun v4 h5 => vInt IntKind.i64 v4 fun n6 => bC (n6 != 0) (Q (Value.bool false) h5) (EvQ P f_p_sched_Sched_Fill [Value.pointer p3] h5 fun v7 h8 => vSl v7 fun p9 m10 m11 =>
  EvQ P f_slices_Equal_sl_string_string [Value.slice p9 m10 m11, Value.slice (some (Addr.mk (AW.next h8) 0 none)) 2 2] (AW.addVar h8 [Value.string (ByteArray.mk #[97]), Value.string (ByteArray.mk #[98])])
  fun v12 h13 => vBool v12 fun b14 => bC (!b14) (Q (Value.bool false) h13) (EvQ P f_p_sched_Sched_Wait [Value.pointer p3, Value.string (ByteArray.mk #[97]), Value.string (ByteArray.mk #[98])] h13
  fun v15 h16 => vTup v15 fun l17 => lC l17 fun v18 l19 => vSl v18 fun p20 m21 m22 => lC l19 fun v23 l24 => vInt IntKind.i64 v23 fun n25 => lN l24 (EvQ P f_p_sched_Sched_Pick [Value.pointer p3,
  Value.int IntKind.i64 0] h16 fun v26 h27 => vTup v26 fun l28 => lC l28 fun v29 l30 => vStr v29 fun s31 => lC l30 fun v32 l33 => vBool v32 fun b34 => lN l33 (bC ((↑m21 : Int) ==
  0) (bC (n25 == 0) (bC (bEq s31 (ByteArray.mk #[98])) (bC b34 (EvQ P f_p_sched_Sched_State [Value.pointer p3, Value.string (ByteArray.mk #[97])] h27 fun v35 h36 => vInt IntKind.i64 v35 fun n37 =>
  bC (n37 == 3) (EvQ P f_p_sched_Sched_Done [Value.pointer p3, Value.string (ByteArray.mk #[98])] h36 fun v38 h39 => vInt IntKind.i64 v38 fun n40 => bC (n40 == 0) (EvQ P f_p_sched_Sched_Queue [Value.pointer p3]
  h39 fun v41 h42 => vSl v41 fun p43 m44 m45 => EvQ P f_slices_Equal_sl_string_string [Value.slice p43 m44 m45, Value.slice (some (Addr.mk (AW.next h42) 0 none)) 2 2] (AW.addVar h42 [Value.string
  (ByteArray.mk #[99]), Value.string (ByteArray.mk #[97])]) fun v46 h47 => vBool v46 fun b48 => Q (Value.bool b48) h47) (Q (Value.bool false) h39)) (Q (Value.bool false) h36)) (Q
  (Value.bool false) h27)) (Q (Value.bool false) h27)) (Q (Value.bool false) h27)) (Q (Value.bool false) h27))))))) : EvQ P f_brickyardlaw20_works [] h Q := fn_ok (n := 400) (ann := annOf []) (Eq.mp
  (by kernel_rfl) H)
theorem r_brickyardlaw20_name {n1 : Int} {h : AW} {Q : Value → AW → Prop} (H : EvQ P f_strconv_Itoa [Value.int IntKind.i64 n1] h fun v2 h3 => vStr v2 fun s4 => bC (Nat.ble (1 + ByteArray.size s4)
  9223372036854775807) (Q (Value.string (ByteArray.mk #[116] ++ s4)) h3) False) : EvQ P f_brickyardlaw20_name [Value.int IntKind.i64 n1] h Q := fn_ok (n := 400) (ann := annOf []) (Eq.mp (by
  kernel_rfl) H)
end Go.Proofs.YtgdkekdedgkglaaDoor
end

section
/- The scheduler works: the law's own test of it. -/
namespace Go.Proofs.YtgdkekdedgkglaaDoor
open Go.Abs Go.Abs.Sch
set_option maxRecDepth 100000
attribute [local irreducible] unitAt EvQ
variable {h : AW} {μ : Paint} {ρ : Store} {Q : Value → AW → Prop}
abbrev sa : Str := ⟨#[97]⟩
abbrev sb : Str := ⟨#[98]⟩
abbrev sc : Str := ⟨#[99]⟩
def w0 : MI := ⟨[], List.replicate (slotsOf 2) e0, []⟩
def w1 : MI := (iwant w0 [sa, sb, sc]).2
def w2 : MI := (ifillFrom w1.slots.length w1 [] 0).1
def w3 : MI := (iwait w2 sa sb).2.2
def w4 : MI := (idone w3 sb).2
theorem fra_call {ns : List Nat} {ρ ρ1 ρ2 : Store} {ns' : List Nat} (F : Fra [] ρ ρ1) (F2 : FrN ns ρ1 ns' ρ2) (hn : ∀ c, c ∈ ns → ρ c = none) : Fra [] ρ ρ2 := fun c r _ hc => F2.1 c r (fun hm => by rw [hn c hm] at hc; cases hc) (F c r (by simp) hc)
theorem new_names {ns ns' : List Nat} {ρ ρ1 ρ2 : Store} (F : Fra [] ρ ρ1) (F2 : FrN ns ρ1 ns' ρ2) (hn : ∀ c, c ∈ ns → ρ c = none) : ∀ c, c ∈ ns' → ρ c = none := fun c hc => by
  rcases F2.2.1 c hc with x | x
  · exact hn c x
  · cases hz : ρ c with
    | none => rfl
    | some r => rw [F c r (by simp) hz] at x; cases x
theorem works_ok (O : Own h μ ρ) (hq : ∀ h' μ' ρ', Own h' μ' ρ' → Fra [] ρ ρ' → Q (.bool true) h') : EvQ P f_brickyardlaw20_works [] h Q := by
  have K0 : IOk w0 := iok_new _
  have S0 : Sz w0 0 := sz_new (of_decide_eq_true (by kernel_rfl))
  have K1 : IOk w1 := iok_want K0
  have S1 : Sz w1 0 := sz_want S0 (of_decide_eq_true (by kernel_rfl))
  have K2 : IOk w2 := iok_fill _ K1
  have S2 : Sz w2 2 := sz_fill 2 S1
  have K3 : IOk w3 := iok_wait K2
  have S3 : Sz w3 2 := (sz_wait S2 (of_decide_eq_true (by kernel_rfl))).1
  have K4 : IOk w4 := iok_done K3
  have S4 : Sz w4 2 := (sz_done K3 S3).1
  refine r_brickyardlaw20_works ?_
  refine a_new (n := 2) O fun h1 μ1 ρ1 I1 O1 A1 F1 n1 => ?_
  have A1 : At ρ1 I1 w0 := A1
  simp only [oB_some, bC_true, bC_false, vInt_int, vBool_bool, vStr_string, vPtr_pointer, vSl_slice, vMap_map, vFun_func, vAgg_agg, vTup_tuple, lC_cons, lN_nil, aP_some, shO_none, shO_some, Option.isNone_none, Option.isNone_some, Bool.not_true, Bool.not_false]
  obtain ⟨μ2, ρ2, c2, O2, W2, hc2⟩ := w_block O1 A1.1 (strs [sa, sb, sc]) (n := 3) (sz := 1) rfl rfl
  have A2 : At ρ2 I1 w0 := ⟨W2.self.tail', A1.2⟩
  have F2 : Fra [] ρ ρ2 := fra_call F1 (FrN.of (W2.tail hc2).fra) n1
  have X2 : Rd ρ2 I1.ns (some ⟨h1.next, 0, none⟩) (strs [sa, sb, sc]) := Rd.of_sl O2 (pcs_notin W2) (W2.at_ 0 _ _ rfl rfl)
  refine a_want (ks := [sa, sb, sc]) O2 A2 K0 S0 (by simp) X2 fun h3 μ3 ρ3 I3 O3 A3 p3 F3 => ?_
  have n3 := new_names F2 F3 n1
  have F3 := fra_call F2 F3 n1
  rw [show (iwant w0 [sa, sb, sc]).1 = 0 from by kernel_rfl]
  simp only [oB_some, bC_true, bC_false, vInt_int, vBool_bool, vStr_string, vPtr_pointer, vSl_slice, vMap_map, vFun_func, vAgg_agg, vTup_tuple, lC_cons, lN_nil, aP_some, shO_none, shO_some, Option.isNone_none, Option.isNone_some, Bool.not_true, Bool.not_false, show (((0 : Nat) : Int) != 0) = false from rfl]
  rw [← p3]
  have A3 : At ρ3 I3 w1 := A3
  refine a_fill O3 A3 K1 S1 (by omega) fun h4 μ4 ρ4 I4 co oa oc O4 A4 p4 F4 hco hcn W4 => ?_
  have n4 := new_names F3 F4 n3
  have F4 := fra_call F3 F4 n3
  have A4 : At ρ4 I4 w2 := A4
  simp only [oB_some, bC_true, bC_false, vInt_int, vBool_bool, vStr_string, vPtr_pointer, vSl_slice, vMap_map, vFun_func, vAgg_agg, vTup_tuple, lC_cons, lN_nil, aP_some, shO_none, shO_some, Option.isNone_none, Option.isNone_some, Bool.not_true, Bool.not_false]
  obtain ⟨μ5, ρ5, c5, O5, W5, hc5⟩ := w_block O4 A4.1 (strs [sa, sb]) (n := 2) (sz := 1) rfl rfl
  have A5 : At ρ5 I4 w2 := ⟨W5.self.tail', A4.2⟩
  have F5 : Fra [] ρ ρ5 := fra_call F4 (FrN.of (W5.tail hc5).fra) n4
  refine equal_ok (y := [sa, sb]) (O5.sl ((W5.tail hc5).fra _ _ hcn W4)) (O5.sl (W5.at_ 0 _ _ rfl rfl)) (of_decide_eq_true (by kernel_rfl)) ?_
  rw [show decide ((ifillFrom w1.slots.length w1 [] 0).2 = [sa, sb]) = true from by kernel_rfl]
  simp only [oB_some, bC_true, bC_false, vInt_int, vBool_bool, vStr_string, vPtr_pointer, vSl_slice, vMap_map, vFun_func, vAgg_agg, vTup_tuple, lC_cons, lN_nil, aP_some, shO_none, shO_some, Option.isNone_none, Option.isNone_some, Bool.not_true, Bool.not_false]
  rw [← p4]
  refine a_wait O5 A5 K2 S2 fun h6 μ6 ρ6 I6 co6 oa6 oc6 O6 A6 p6 F6 hco6 hcn6 W6 => ?_
  have n6 := new_names F5 F6 n4
  have F6 := fra_call F5 F6 n4
  have A6 : At ρ6 I6 w3 := A6
  simp only [oB_some, bC_true, bC_false, vInt_int, vBool_bool, vStr_string, vPtr_pointer, vSl_slice, vMap_map, vFun_func, vAgg_agg, vTup_tuple, lC_cons, lN_nil, aP_some, shO_none, shO_some, Option.isNone_none, Option.isNone_some, Bool.not_true, Bool.not_false]
  rw [← p6]
  refine a_pick O6 A6 K3 S3 (of_decide_eq_true (by kernel_rfl)) fun h7 μ7 ρ7 O7 A7 F7 => ?_
  have F7 := fra_call F6 F7 n6
  rw [show ipickV w3.slots 0 = .tuple ⟨[.string sb, .bool true]⟩ from by kernel_rfl]
  simp only [oB_some, bC_true, bC_false, vInt_int, vBool_bool, vStr_string, vPtr_pointer, vSl_slice, vMap_map, vFun_func, vAgg_agg, vTup_tuple, lC_cons, lN_nil, aP_some, shO_none, shO_some, Option.isNone_none, Option.isNone_some, Bool.not_true, Bool.not_false]
  rw [show (iwait w2 sa sb).1.length = 0 from by kernel_rfl, show (iwait w2 sa sb).2.1 = 0 from by kernel_rfl]
  rw [show (((0 : Nat) : Int) == 0) = true from rfl]
  simp only [oB_some, bC_true, bC_false, vInt_int, vBool_bool, vStr_string, vPtr_pointer, vSl_slice, vMap_map, vFun_func, vAgg_agg, vTup_tuple, lC_cons, lN_nil, aP_some, shO_none, shO_some, Option.isNone_none, Option.isNone_some, Bool.not_true, Bool.not_false, bEq_self]
  refine a_state O7 A7 ?_
  rw [show mst w3.tasks sa = 3 from by kernel_rfl]
  simp only [oB_some, bC_true, bC_false, vInt_int, vBool_bool, vStr_string, vPtr_pointer, vSl_slice, vMap_map, vFun_func, vAgg_agg, vTup_tuple, lC_cons, lN_nil, aP_some, shO_none, shO_some, Option.isNone_none, Option.isNone_some, Bool.not_true, Bool.not_false, show (((3 : Nat) : Int) == 3) = true from rfl]
  refine a_done O7 A7 K3 S3 fun h8 μ8 ρ8 I8 O8 A8 p8 F8 => ?_
  have n8 := new_names F7 F8 n6
  have F8 := fra_call F7 F8 n6
  have A8 : At ρ8 I8 w4 := A8
  rw [show (idone w3 sb).1 = 0 from by kernel_rfl]
  simp only [oB_some, bC_true, bC_false, vInt_int, vBool_bool, vStr_string, vPtr_pointer, vSl_slice, vMap_map, vFun_func, vAgg_agg, vTup_tuple, lC_cons, lN_nil, aP_some, shO_none, shO_some, Option.isNone_none, Option.isNone_some, Bool.not_true, Bool.not_false, show (((0 : Nat) : Int) == 0) = true from rfl]
  rw [← p8]
  refine a_queue O8 A8 K4 S4 fun h9 μ9 ρ9 co9 oa9 oc9 O9 W9 hco9 => ?_
  simp only [oB_some, bC_true, bC_false, vInt_int, vBool_bool, vStr_string, vPtr_pointer, vSl_slice, vMap_map, vFun_func, vAgg_agg, vTup_tuple, lC_cons, lN_nil, aP_some, shO_none, shO_some, Option.isNone_none, Option.isNone_some, Bool.not_true, Bool.not_false]
  have F9 : Fra [] ρ ρ9 := fun c r hn hc => W9.fra c r (fun hm => by simp at hm; subst hm; rw [F8 _ r (by simp) hc] at hco9; cases hco9) (F8 c r hn hc)
  obtain ⟨μ10, ρ10, c10, O10, W10, hc10⟩ := w_block O9 W9.self (strs [sc, sa]) (n := 2) (sz := 1) rfl rfl
  refine equal_ok (y := [sc, sa]) (O10.sl (W10.at_ 1 _ _ rfl rfl)) (O10.sl (W10.at_ 0 _ _ rfl rfl)) (of_decide_eq_true (by kernel_rfl)) ?_
  rw [show decide (w4.queue = [sc, sa]) = true from by kernel_rfl]
  simp only [oB_some, bC_true, bC_false, vInt_int, vBool_bool, vStr_string, vPtr_pointer, vSl_slice, vMap_map, vFun_func, vAgg_agg, vTup_tuple, lC_cons, lN_nil, aP_some, shO_none, shO_some, Option.isNone_none, Option.isNone_some, Bool.not_true, Bool.not_false]
  exact hq _ _ _ O10 fun c r hn hc => (W10.tail hc10).fra c r (fun hm => by simp at hm; subst hm; rw [F8 _ r (by simp) hc] at hco9; cases hco9) (F9 c r hn hc)
end Go.Proofs.YtgdkekdedgkglaaDoor
end

section
/- SchedTurns: what it comes to. -/
namespace Go.Proofs.YtgdkekdedgkglaaDoor
open Go.Abs Go.Abs.Sch
set_option maxRecDepth 100000
attribute [local irreducible] unitAt EvQ
variable {h : AW} {μ : Paint} {ρ : Store} {Q : Value → AW → Prop}

/-- A number below a hundred. -/
def dig (i : Nat) : Str := if i < 10 then ⟨#[UInt8.ofNat (48 + i)]⟩ else ⟨#[UInt8.ofNat (48 + i / 10), UInt8.ofNat (48 + i % 10)]⟩
def tname (i : Nat) : Str := ⟨#[116]⟩ ++ dig i
def names (n : Nat) : List Str := (List.range n).map tname
theorem itoa_all (h : AW) : (List.range 60).map (fun i => callF P 12 f_strconv_Itoa [.int .i64 (Int.ofNat i)] h) = (List.range 60).map fun i => some (.string (dig i), h) := by kernel_rfl
theorem itoa_ok {i : Nat} (hi : i < 60) (hq : Q (.string (dig i)) h) : EvQ P f_strconv_Itoa [.int .i64 (i : Int)] h Q := by
  have := congrArg (fun l => l[i]?) (itoa_all h)
  simp only [List.getElem?_map, List.getElem?_range hi, Option.map_some, Option.some.injEq] at this
  unfold EvQ
  exact ⟨_, _, ⟨12, this⟩, hq⟩
theorem name_ok {i : Nat} (hi : i < 60) (hq : Q (.string (tname i)) h) : EvQ P f_brickyardlaw20_name [.int .i64 (i : Int)] h Q := by
  refine r_brickyardlaw20_name (itoa_ok hi ?_)
  simp only [oB_some, bC_true, bC_false, vInt_int, vBool_bool, vStr_string, vPtr_pointer, vSl_slice, vMap_map, vFun_func, vAgg_agg, vTup_tuple, lC_cons, lN_nil, aP_some, shO_none, shO_some, Option.isNone_none, Option.isNone_some, Bool.not_true, Bool.not_false]
  have hs : (dig i).size ≤ 2 := by unfold dig; split <;> simp [ByteArray.size]
  rw [Nat.ble_eq_true_of_le (by omega)]
  simp only [oB_some, bC_true, bC_false, vInt_int, vBool_bool, vStr_string, vPtr_pointer, vSl_slice, vMap_map, vFun_func, vAgg_agg, vTup_tuple, lC_cons, lN_nil, aP_some, shO_none, shO_some, Option.isNone_none, Option.isNone_some, Bool.not_true, Bool.not_false]
  exact hq
def nodupB : List Str → Bool
  | [] => true
  | x :: l => !memB x l && nodupB l
theorem nodupB_ok : ∀ {l : List Str}, nodupB l = true → l.Nodup
  | [], _ => List.nodup_nil
  | x :: l, h => by
    simp only [nodupB, Bool.and_eq_true, Bool.not_eq_true'] at h
    exact List.nodup_cons.2 ⟨memB_not.1 h.1, nodupB_ok h.2⟩
theorem names_take {n : Nat} (hn : n ≤ 60) : names n = (names 60).take n := by
  unfold names
  rw [← List.map_take, List.take_range, Nat.min_eq_left hn]
theorem names_nodup {n : Nat} (hn : n ≤ 60) : (names n).Nodup := by
  rw [names_take hn]
  exact (nodupB_ok (by kernel_rfl : nodupB (names 60) = true)).sublist (List.take_sublist _ _)
theorem names_e0 {n : Nat} (hn : n ≤ 60) : e0 ∉ names n := by
  rw [names_take hn]
  intro h
  exact memB_not.1 (by kernel_rfl : memB e0 (names 60) = false) (List.mem_of_mem_take h)
theorem names_len (n : Nat) : (names n).length = n := by simp [names]
theorem names_succ (n : Nat) : names (n + 1) = names n ++ [tname n] := by simp [names, List.range_succ]

/-- The names' slice is made. -/
theorem keys_loop {n : Nat} (hn : n ≤ 60) {ck : Nat} {ρ0 : Store} {pa : Option Addr} {pl pc : Nat} {p : Nat} :
    ∀ (d i : Nat) {h : AW} {μ : Paint} {ρ : Store} {ka : Option Addr} {kc : Nat}, n - i = d → i ≤ n → Own h μ ρ → Pcs ρ0 ρ [ck] [.sl ka kc 1 (strs (names i))] → ρ0 ck = none →
      (∀ h' μ' ρ' ka' kc', Own h' μ' ρ' → Pcs ρ0 ρ' [ck] [.sl ka' kc' 1 (strs (names n))] → unitAt P f_brickyardlaw20_SchedTurns 10 [1, 2, 7, 8, 9, 27, 28] [.int .i64 (n : Int), .slice pa pl pc, .pointer (some ⟨p, 0, none⟩), .slice ka' (names n).length kc', .slice none 0 0, .int .i64 (n : Int), .int .i64 (n : Int)] h' Q) →
      unitAt P f_brickyardlaw20_SchedTurns 10 [1, 2, 7, 8, 9, 27, 28] [.int .i64 (n : Int), .slice pa pl pc, .pointer (some ⟨p, 0, none⟩), .slice ka (names i).length kc, .slice none 0 0, .int .i64 (n : Int), .int .i64 (i : Int)] h Q := by
  intro d
  induction d with
  | zero =>
    intro i h μ ρ ka kc hd hi O W h0 hq
    have : i = n := by omega
    subst this
    exact hq _ _ _ _ _ O W
  | succ d ih =>
    intro i h μ ρ ka kc hd hi O W h0 hq
    refine r_brickyardlaw20_SchedTurns_10 ?_
    rw [ltI (by omega)]
    simp only [oB_some, bC_true, bC_false, vInt_int, vBool_bool, vStr_string, vPtr_pointer, vSl_slice, vMap_map, vFun_func, vAgg_agg, vTup_tuple, lC_cons, lN_nil, aP_some, shO_none, shO_some, Option.isNone_none, Option.isNone_some, Bool.not_true, Bool.not_false]
    refine name_ok (by omega) ?_
    simp only [oB_some, bC_true, bC_false, vInt_int, vBool_bool, vStr_string, vPtr_pointer, vSl_slice, vMap_map, vFun_func, vAgg_agg, vTup_tuple, lC_cons, lN_nil, aP_some, shO_none, shO_some, Option.isNone_none, Option.isNone_some, Bool.not_true, Bool.not_false]
    obtain ⟨μ1, ρ1, c1, O1, W1, hc1⟩ := w_block O W (strs [tname i]) (n := 1) (sz := 1) rfl rfl
    have hl := names_len i
    refine w_app (P := P) O1 W1 1 ti_ty_sl_string ti_ty_string (by decide) rfl (by simp) (w_sl O1 W1 0 rfl) rfl rfl (by omega) (by omega) fun ka' kc' h2 μ2 ρ2 O2 W2 => ?_
    simp only [oB_some, bC_true, bC_false, vInt_int, vBool_bool, vStr_string, vPtr_pointer, vSl_slice, vMap_map, vFun_func, vAgg_agg, vTup_tuple, lC_cons, lN_nil, aP_some, shO_none, shO_some, Option.isNone_none, Option.isNone_some, Bool.not_true, Bool.not_false]
    rw [wrapS (by omega), show (names i).length + 1 = (names (i + 1)).length from by rw [names_succ]; simp]
    have W2 := (W2.tail hc1).eq (rs' := [.sl ka' kc' 1 (strs (names (i + 1)))]) (by rw [names_succ]; simp)
    exact ih (i + 1) (by omega) (by omega) O2 W2 h0 hq
/-- Numbers in memory. -/
abbrev ints (l : List Int) : List Value := l.map (Value.int .i64)
/-- What the law's loop lives on. -/
structure Live (h : AW) (μ : Paint) (ρ : Store) (I : IM) (m : MI) (keys : List Str) (f : Nat) (ck cg : Nat) (ka ga : Option Addr) (kc gc : Nat) (pa : Option Addr) (pv : List Int) : Prop where
  own : Own h μ ρ
  at_ : At ρ I m
  ts : TS keys m f
  sz : Sz m 900
  sl : 0 < m.slots.length
  kk : ρ ck = some (.sl ka kc 1 (strs keys))
  gg : ρ cg = some (.sl ga gc 1 (strs (keys.take f)))
  ne : ck ≠ cg
  nk : ck ∉ I.ns
  ng : cg ∉ I.ns
  pp : Rd ρ (cg :: I.ns) pa (ints pv)
theorem Rd.weak {ns ms : List Nat} {a : Option Addr} {l : List Value} (R : Rd ρ ms a l) (h : ∀ c, c ∈ ns → c ∈ ms) : Rd ρ ns a l := R.mono h
theorem turns_loop {keys : List Str} (hk : keys.length ≤ 60) {ck : Nat} {pa : Option Addr} {pv : List Int} {pc p : Nat} {ka : Option Addr} {kc : Nat} (hq : ∀ h, Q (.bool true) h) :
    ∀ (r : Nat) {h : AW} {μ : Paint} {ρ : Store} {I : IM} {m : MI} {f cg : Nat} {ga : Option Addr} {gc : Nat}, keys.length - dn m = r → I.p = p → Live h μ ρ I m keys f ck cg ka ga kc gc pa pv →
      unitAt P f_brickyardlaw20_SchedTurns 17 [1, 2, 7, 8, 9, 11] [.int .i64 (keys.length : Int), .slice pa pv.length pc, .pointer (some ⟨p, 0, none⟩), .slice ka keys.length kc, .slice ga (keys.take f).length gc, .int .i64 (dn m : Int)] h Q := by
  intro r
  induction r with
  | zero =>
    intro h μ ρ I m f cg ga gc hr hp L
    subst hp
    have hml : m.tasks.length = keys.length := by have := congrArg List.length L.ts.ks; simpa [mkeys] using this
    have hall : ∀ t, t ∈ m.tasks → t.st = 4 := dn_all.2 (by have := dn_le m; omega)
    refine r_brickyardlaw20_SchedTurns_17 ?_
    refine a_over L.own L.at_ L.sz ?_
    unfold ilive
    rw [(ts_over L.ts).2 hall]
    simp only [oB_some, bC_true, bC_false, vInt_int, vBool_bool, vStr_string, vPtr_pointer, vSl_slice, vMap_map, vFun_func, vAgg_agg, vTup_tuple, lC_cons, lN_nil, aP_some, shO_none, shO_some, Option.isNone_none, Option.isNone_some, Bool.not_true, Bool.not_false]
    have hqe : m.queue = [] := by
      cases hx : m.queue with
      | nil => rfl
      | cons k q =>
        obtain ⟨t, ht, h1⟩ := L.ts.ok.ig.q1 k (by rw [hx]; simp)
        have := hall t (mget_mem' ht); omega
    have hf : keys.take f = keys := by
      have := L.ts.q
      rw [hqe] at this
      have := List.drop_eq_nil_iff.1 this.symm
      exact List.take_of_length_le this
    refine equal_ok (L.own.sl L.gg) (L.own.sl L.kk) (by rw [hf]; omega) ?_
    rw [hf]
    simp only [oB_some, bC_true, bC_false, vInt_int, vBool_bool, vStr_string, vPtr_pointer, vSl_slice, vMap_map, vFun_func, vAgg_agg, vTup_tuple, lC_cons, lN_nil, aP_some, shO_none, shO_some, Option.isNone_none, Option.isNone_some, Bool.not_true, Bool.not_false]
    simpa using hq _
  | succ r ih =>
    intro h μ ρ I m f cg ga gc hr hp L
    subst hp
    have hml : m.tasks.length = keys.length := by have := congrArg List.length L.ts.ks; simpa [mkeys] using this
    have hdn := dn_le m
    have hnall : ¬ ∀ t, t ∈ m.tasks → t.st = 4 := fun h => by have := dn_all.1 h; omega
    obtain ⟨t4, ht4, hne4⟩ : ∃ t, t ∈ m.tasks ∧ t.st ≠ 4 := by
      apply Decidable.byContradiction
      intro hx
      exact hnall fun t ht => Decidable.byContradiction fun hne => hx ⟨t, ht, hne⟩
    have hov : (!ilive m.tasks && (manyOf m.tasks 3 == 0)) = false := by
      rw [← Bool.not_eq_true]
      exact fun h => hnall ((ts_over L.ts).1 h)
    refine r_brickyardlaw20_SchedTurns_17 ?_
    refine a_over L.own L.at_ L.sz ?_
    rw [hov]
    simp only [oB_some, bC_true, bC_false, vInt_int, vBool_bool, vStr_string, vPtr_pointer, vSl_slice, vMap_map, vFun_func, vAgg_agg, vTup_tuple, lC_cons, lN_nil, aP_some, shO_none, shO_some, Option.isNone_none, Option.isNone_some, Bool.not_true, Bool.not_false]
    rw [show decide ((dn m : Int) > (keys.length : Int)) = false from decide_eq_false (by omega)]
    simp only [oB_some, bC_true, bC_false, vInt_int, vBool_bool, vStr_string, vPtr_pointer, vSl_slice, vMap_map, vFun_func, vAgg_agg, vTup_tuple, lC_cons, lN_nil, aP_some, shO_none, shO_some, Option.isNone_none, Option.isNone_some, Bool.not_true, Bool.not_false]
    refine a_fill L.own L.at_ L.ts.ok L.sz (by omega) fun h1 μ1 ρ1 I1 co oa oc O1 A1 p1 F1 hco hcn W1 => ?_
    obtain ⟨f1, T1, o1, lf1, s1⟩ := ts_fill m.slots.length 0 [] L.ts fun j hj => by omega
    have hlen := fill_len m.slots.length (m := m) (out := []) (i := 0)
    rw [List.nil_append] at o1
    have hst1 : StB (ifillFrom m.slots.length m [] 0).1 900 := fun t ht => by have := (T1.t t ht).2.2; split at this <;> omega
    have S1 : Sz (ifillFrom m.slots.length m [] 0).1 900 := ⟨by rw [hlen.1]; exact L.sz.nt, by rw [hlen.2]; exact L.sz.ns, hst1⟩
    have hsl1 : 0 < (ifillFrom m.slots.length m [] 0).1.slots.length := by rw [hlen.2]; exact L.sl
    have hdn1 : dn (ifillFrom m.slots.length m [] 0).1 = dn m := dn_fill _ 0 [] L.ts
    have hex1 : ∃ t, t ∈ (ifillFrom m.slots.length m [] 0).1.tasks ∧ t.st ≠ 4 := by
      apply Decidable.byContradiction
      intro hx
      have hall1 : ∀ t, t ∈ (ifillFrom m.slots.length m [] 0).1.tasks → t.st = 4 := fun t ht => Decidable.byContradiction fun hne => hx ⟨t, ht, hne⟩
      have := dn_all.1 hall1
      rw [hdn1, hlen.1] at this
      omega
    have hs1 : ∀ j, j < (ifillFrom m.slots.length m [] 0).1.slots.length → (ifillFrom m.slots.length m [] 0).1.slots[j]? = some e0 → (ifillFrom m.slots.length m [] 0).1.queue = [] := fun j hj => s1 j (by rw [hlen.2] at hj; omega)
    generalize (ifillFrom m.slots.length m [] 0).1 = m1 at *
    generalize (ifillFrom m.slots.length m [] 0).2 = out1 at *
    have hg1 : ρ1 cg = some (.sl ga gc 1 (strs (keys.take f))) := F1.1 _ _ L.ng L.gg
    have hk1 : ρ1 ck = some (.sl ka kc 1 (strs keys)) := F1.1 _ _ L.nk L.kk
    have W2 : Pcs ρ1 ρ1 [cg] [.sl ga gc 1 (strs (keys.take f))] := Pcs.init (by simp) rfl (by
      intro i c r h1 h2
      cases i with
      | zero =>
        have h1 : some cg = some c := h1
        have h2 : some (Res.sl ga gc 1 (strs (keys.take f))) = some r := h2
        cases h1; cases h2; exact hg1
      | succ i => simp at h1)
    have hol : out1.length ≤ keys.length := by rw [o1]; simp; omega
    have hfl : (keys.take f).length ≤ keys.length := by simp; omega
    refine w_app (P := P) O1 W2 0 ti_ty_sl_string ti_ty_string (by decide) rfl (by simp) (O1.sl W1) (m := out1.length) (by simp) allOne_strs (by omega) (by omega) fun ga2 gc2 h3 μ3 ρ3 O3 W3 => ?_
    simp only [oB_some, bC_true, bC_false, vInt_int, vBool_bool, vStr_string, vPtr_pointer, vSl_slice, vMap_map, vFun_func, vAgg_agg, vTup_tuple, lC_cons, lN_nil, aP_some, shO_none, shO_some, Option.isNone_none, Option.isNone_some, Bool.not_true, Bool.not_false]
    have hgot : keys.take f ++ out1 = keys.take f1 := by
      rw [o1, ← List.take_add]; congr 1; omega
    have hgl : (keys.take f).length + out1.length = (keys.take f1).length := by rw [← hgot]; simp
    rw [hgl]
    have hcgn : cg ∉ I1.ns := fun hm => by
      rcases F1.2.1 cg hm with x | x
      · exact L.ng x
      · rw [L.gg] at x; cases x
    have hckn : ck ∉ I1.ns := fun hm => by
      rcases F1.2.1 ck hm with x | x
      · exact L.nk x
      · rw [L.kk] at x; cases x
    have A3 : At ρ3 I1 m1 := ⟨A1.1.keep W3.fra (fun c hc => by simp at hc; subst hc; exact hcgn), A1.2⟩
    have L3 : Live h3 μ3 ρ3 I1 m1 keys f1 ck cg ka ga2 kc gc2 pa pv := by
      refine ⟨O3, A3, T1, S1, hsl1, W3.fra _ _ (by simpa using L.ne) hk1, ?_, L.ne, hckn, hcgn, ?_⟩
      · have := W3.at_ 0 _ _ rfl rfl
        rw [this]; simp [← hgot]
      · obtain ⟨c, hc, rest⟩ := L.pp
        have P1 : Rd ρ (cg :: I.ns) pa (ints pv) := ⟨c, hc, rest⟩
        have P2 : Rd ρ1 (cg :: I1.ns) pa (ints pv) := P1.keepN ⟨fun c r hn hc => F1.1 c r (fun x => hn (List.mem_cons_of_mem _ x)) hc, fun c hc => by
          rcases List.mem_cons.1 hc with x | x
          · exact .inl (by rw [x]; simp)
          · rcases F1.2.1 c x with y | y
            · exact .inl (List.mem_cons_of_mem _ y)
            · exact .inr y, fun c hc => by
          rcases List.mem_cons.1 hc with x | x
          · rw [x]; simp
          · exact List.mem_cons_of_mem _ (F1.2.2 c x)⟩
        exact P2.keep (W3.fra.mono fun c hc => by simp at hc; rw [hc]; simp)
    have step : ∀ (pick : Int), unitAt P f_brickyardlaw20_SchedTurns 25 [1, 2, 7, 8, 9, 11, 12] [.int .i64 (keys.length : Int), .slice pa pv.length pc, .pointer (some ⟨I.p, 0, none⟩), .slice ka keys.length kc, .slice ga2 (keys.take f1).length gc2, .int .i64 (dn m : Int), .int .i64 pick] h3 Q := by
      intro pick
      refine r_brickyardlaw20_SchedTurns_25 ?_
      rw [← p1]
      refine a_pick L3.own L3.at_ L3.ts.ok L3.sz L3.sl fun h4 μ4 ρ4 O4 A4 F4 => ?_
      obtain ⟨s, t, hp, hs, h2⟩ := ts_pick L3.ts L3.sl hs1 hex1 pick
      rw [show ipickV m1.slots pick = .tuple ⟨[.string s, .bool true]⟩ from by unfold ipickV; rw [hp]]
      simp only [oB_some, bC_true, bC_false, vInt_int, vBool_bool, vStr_string, vPtr_pointer, vSl_slice, vMap_map, vFun_func, vAgg_agg, vTup_tuple, lC_cons, lN_nil, aP_some, shO_none, shO_some, Option.isNone_none, Option.isNone_some, Bool.not_true, Bool.not_false]
      obtain ⟨d1, d2, d3, d4, d5, d6, d7⟩ := ts_done L3.ts hs h2
      refine a_done O4 A4 L3.ts.ok L3.sz fun h5 μ5 ρ5 I5 O5 A5 p5 F5 => ?_
      have S5 := (sz_done (key := s) L3.ts.ok L3.sz).1
      rw [d1]
      simp only [oB_some, bC_true, bC_false, vInt_int, vBool_bool, vStr_string, vPtr_pointer, vSl_slice, vMap_map, vFun_func, vAgg_agg, vTup_tuple, lC_cons, lN_nil, aP_some, shO_none, shO_some, Option.isNone_none, Option.isNone_some, Bool.not_true, Bool.not_false, show (((0 : Nat) : Int) != 0) = false from rfl]
      rw [← p5]
      refine a_done O5 A5 d2.ok S5 fun h6 μ6 ρ6 I6 O6 A6 p6 F6 => ?_
      rw [d7] at A6 ⊢
      have A6 : At ρ6 I6 (idone m1 s).2 := A6
      simp only [oB_some, bC_true, bC_false, vInt_int, vBool_bool, vStr_string, vPtr_pointer, vSl_slice, vMap_map, vFun_func, vAgg_agg, vTup_tuple, lC_cons, lN_nil, aP_some, shO_none, shO_some, Option.isNone_none, Option.isNone_some, Bool.not_true, Bool.not_false, show (((4 : Nat) : Int) != 4) = false from rfl]
      rw [← p6]
      refine a_starts O6 A6 ?_
      rw [d6]
      simp only [oB_some, bC_true, bC_false, vInt_int, vBool_bool, vStr_string, vPtr_pointer, vSl_slice, vMap_map, vFun_func, vAgg_agg, vTup_tuple, lC_cons, lN_nil, aP_some, shO_none, shO_some, Option.isNone_none, Option.isNone_some, Bool.not_true, Bool.not_false, show (((1 : Nat) : Int) != 1) = false from rfl]
      rw [wrapS (by omega), show ((dn m + 1 : Nat) : Int) = ((dn (idone m1 s).2 : Nat) : Int) from by rw [d4, hdn1]]
      have FF := ((F4.trans F5).trans F6)
      have hn6 : ∀ c, c ∉ I1.ns → (∃ r, ρ3 c = some r) → c ∉ I6.ns := fun c hc ⟨r, hr⟩ hm => by
        rcases FF.2.1 c hm with x | x
        · exact hc x
        · rw [hr] at x; cases x
      rw [p6, p5, p1]
      refine ih (I := I6) (m := (idone m1 s).2) (by rw [d4, hdn1]; omega) (p6.trans (p5.trans p1)) ⟨O6, A6, d2, S5, by rw [d3]; exact L3.sl, FF.1 _ _ L3.nk L3.kk, FF.1 _ _ L3.ng L3.gg, L3.ne, hn6 _ L3.nk ⟨_, L3.kk⟩, hn6 _ L3.ng ⟨_, L3.gg⟩, ?_⟩
      exact L3.pp.keepN ⟨fun c r hn hc => FF.1 c r (fun x => hn (List.mem_cons_of_mem _ x)) hc, fun c hc => by
        rcases List.mem_cons.1 hc with x | x
        · exact .inl (by rw [x]; simp)
        · rcases FF.2.1 c x with y | y
          · exact .inl (List.mem_cons_of_mem _ y)
          · exact .inr y, fun c hc => by
        rcases List.mem_cons.1 hc with x | x
        · rw [x]; simp
        · exact List.mem_cons_of_mem _ (FF.2.2 c x)⟩
    refine bC_iff (fun e => ?_) (fun e => step 0)
    have hpl : 0 < pv.length := by simp at e; omega
    rw [show decide ((pv.length : Int) = 0) = false from decide_eq_false (by omega)]
    simp only [oB_some, bC_true, bC_false, vInt_int, vBool_bool, vStr_string, vPtr_pointer, vSl_slice, vMap_map, vFun_func, vAgg_agg, vTup_tuple, lC_cons, lN_nil, aP_some, shO_none, shO_some, Option.isNone_none, Option.isNone_some, Bool.not_true, Bool.not_false]
    rw [tmod_nat]
    have hi : dn m % pv.length < pv.length := Nat.mod_lt _ hpl
    refine (L3.pp.sl O3).at1 (v := .int .i64 pv[dn m % pv.length]) rfl (by simp) (by simp [hi]) ?_
    simp only [oB_some, bC_true, bC_false, vInt_int, vBool_bool, vStr_string, vPtr_pointer, vSl_slice, vMap_map, vFun_func, vAgg_agg, vTup_tuple, lC_cons, lN_nil, aP_some, shO_none, shO_some, Option.isNone_none, Option.isNone_some, Bool.not_true, Bool.not_false]
    exact step _

theorem turns_ok {slots n : Int} {pa : Option Addr} {pv : List Int} {pc : Nat} (O : Own h μ ρ) (X : Rd ρ [] pa (ints pv)) (hq : ∀ h, Q (.bool true) h) : EvQ P f_brickyardlaw20_SchedTurns [.int .i64 slots, .int .i64 n, .slice pa pv.length pc] h Q := by
  refine r_brickyardlaw20_SchedTurns ?_
  refine works_ok O fun h1 μ1 ρ1 O1 F1 => ?_
  simp only [oB_some, bC_true, bC_false, vInt_int, vBool_bool, vStr_string, vPtr_pointer, vSl_slice, vMap_map, vFun_func, vAgg_agg, vTup_tuple, lC_cons, lN_nil, aP_some, shO_none, shO_some, Option.isNone_none, Option.isNone_some, Bool.not_true, Bool.not_false]
  refine bC_iff (fun _ => hq _) (fun e1 => bC_iff (fun _ => hq _) (fun e2 => ?_))
  obtain ⟨k, rfl⟩ : ∃ k : Nat, n = k := ⟨n.toNat, by simp at e1; omega⟩
  have hk : k ≤ 60 := by simp at e2; omega
  refine a_new O1 fun h2 μ2 ρ2 I2 O2 A2 F2 n2 => ?_
  simp only [oB_some, bC_true, bC_false, vInt_int, vBool_bool, vStr_string, vPtr_pointer, vSl_slice, vMap_map, vFun_func, vAgg_agg, vTup_tuple, lC_cons, lN_nil, aP_some, shO_none, shO_some, Option.isNone_none, Option.isNone_some, Bool.not_true, Bool.not_false]
  obtain ⟨ρ3, ck, O3, W3, hck⟩ := w_nil O2 p0 1
  have X2 : Rd ρ2 (ck :: I2.ns) pa (ints pv) := ((X.keep F1).fresh F2 n2).add hck
  refine keys_loop (ck := ck) (ρ0 := ρ2) hk _ 0 rfl (by omega) O3 (W3 : Pcs ρ2 ρ3 [ck] [.sl none 0 1 (strs (names 0))]) hck fun h4 μ4 ρ4 ka kc O4 W4 => ?_
  refine r_brickyardlaw20_SchedTurns_10 ?_
  rw [geI (Nat.le_refl _)]
  simp only [oB_some, bC_true, bC_false, vInt_int, vBool_bool, vStr_string, vPtr_pointer, vSl_slice, vMap_map, vFun_func, vAgg_agg, vTup_tuple, lC_cons, lN_nil, aP_some, shO_none, shO_some, Option.isNone_none, Option.isNone_some, Bool.not_true, Bool.not_false]
  have hckn : ck ∉ I2.ns := fun hm => by
    obtain ⟨i, hi⟩ := List.getElem?_of_mem hm
    have hlt := (List.getElem?_eq_some_iff.1 hi).1
    have := A2.1.at_ i ck _ hi (List.getElem?_eq_getElem (by rw [← A2.1.len]; exact hlt))
    rw [hck] at this; cases this
  have A4 : At ρ4 I2 ⟨[], List.replicate (slotsOf slots) e0, []⟩ := ⟨A2.1.keep W4.fra (fun c hc => by simp at hc; subst hc; exact hckn), A2.2⟩
  have hkk := W4.at_ 0 _ _ rfl rfl
  obtain ⟨s1, s2, s3⟩ := ts_start (n := slotsOf slots) (names_nodup hk) (names_e0 hk)
  have hsr := slotsOf_range slots
  have hnl := names_len k
  have S0 : Sz ⟨[], List.replicate (slotsOf slots) e0, []⟩ 900 := ⟨by simp, by simpa using hsr.2, fun t ht => by simp at ht⟩
  refine a_want O4 A4 (iok_new _) S0 (by omega) (Rd.of_sl O4 hckn hkk) fun h5 μ5 ρ5 I5 O5 A5 p5 F5 => ?_
  rw [s1] at A5 ⊢
  have A5 : At ρ5 I5 ⟨(names k).map newMT, List.replicate (slotsOf slots) e0, names k⟩ := A5
  simp only [oB_some, bC_true, bC_false, vInt_int, vBool_bool, vStr_string, vPtr_pointer, vSl_slice, vMap_map, vFun_func, vAgg_agg, vTup_tuple, lC_cons, lN_nil, aP_some, shO_none, shO_some, Option.isNone_none, Option.isNone_some, Bool.not_true, Bool.not_false, show (((0 : Nat) : Int) != 0) = false from rfl]
  have hck5 : ck ∉ I5.ns := fun hm => by
    rcases F5.2.1 ck hm with x | x
    · exact hckn x
    · rw [hkk] at x; cases x
  have hkk5 := F5.1 _ _ hckn hkk
  have S5 : Sz ⟨(names k).map newMT, List.replicate (slotsOf slots) e0, names k⟩ 900 := ⟨by simp; omega, by simpa using hsr.2, fun t ht => by
    obtain ⟨x, _, rfl⟩ := List.mem_map.1 ht
    simp [newMT]⟩
  rw [← p5]
  refine a_want O5 A5 s2.ok S5 (by omega) (Rd.of_sl O5 hck5 hkk5) fun h6 μ6 ρ6 I6 O6 A6 p6 F6 => ?_
  rw [s3] at A6 ⊢
  have A6 : At ρ6 I6 ⟨(names k).map newMT, List.replicate (slotsOf slots) e0, names k⟩ := A6
  simp only [oB_some, bC_true, bC_false, vInt_int, vBool_bool, vStr_string, vPtr_pointer, vSl_slice, vMap_map, vFun_func, vAgg_agg, vTup_tuple, lC_cons, lN_nil, aP_some, shO_none, shO_some, Option.isNone_none, Option.isNone_some, Bool.not_true, Bool.not_false, show (((0 : Nat) : Int) != 0) = false from rfl]
  have hck6 : ck ∉ I6.ns := fun hm => by
    rcases F6.2.1 ck hm with x | x
    · exact hck5 x
    · rw [hkk5] at x; cases x
  have hkk6 := F6.1 _ _ hck5 hkk5
  obtain ⟨ρ7, cg, O7, W7, hcg⟩ := w_nil O6 A6.1 1
  have A7 : At ρ7 I6 ⟨(names k).map newMT, List.replicate (slotsOf slots) e0, names k⟩ := ⟨W7.self.tail', A6.2⟩
  have hne : ck ≠ cg := fun e => by rw [← e, hkk6] at hcg; cases hcg
  have X7 : Rd ρ7 (cg :: I6.ns) pa (ints pv) := by
    have X4 : Rd ρ4 I2.ns pa (ints pv) := (X2.keep (W4.fra.mono fun c hc => by simp at hc; rw [hc]; simp)).mono fun c hc => List.mem_cons_of_mem _ hc
    exact (((X4.keepN F5).keepN F6).add hcg).keep ((W7.tail hcg).fra.mono fun c hc => List.mem_cons_of_mem _ hc)
  have hkn : (k : Int) = ((names k).length : Int) := by rw [hnl]
  have hd0 : dn ⟨(names k).map newMT, List.replicate (slotsOf slots) e0, names k⟩ = 0 := by
    unfold dn
    rw [List.countP_eq_zero]
    intro t ht
    obtain ⟨x, _, rfl⟩ := List.mem_map.1 ht
    simp [newMT]
  rw [← p6]
  have := turns_loop (Q := Q) (pc := pc) (keys := names k) (by omega) hq _ (I := I6) rfl rfl ⟨O7, A7, s2, S5, by simp; omega, (W7.tail hcg).fra _ _ hck6 hkk6, W7.at_ 0 _ _ rfl rfl, hne, hck6, pcs_notin W7, X7⟩
  rw [hd0] at this
  rw [hkn]
  exact this
end Go.Proofs.YtgdkekdedgkglaaDoor
end
