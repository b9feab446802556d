/- A deterministic heap for the model, proved sound, and walks of the program over it: part 9. No condition. -/
import Derived.Test.YtgdkekdedgkglaaAb1
import Derived.Test.YtgdkekdedgkglaaAb2
import Derived.Test.YtgdkekdedgkglaaAb3
import Derived.Test.YtgdkekdedgkglaaAb6
import Derived.Test.YtgdkekdedgkglaaCd2
import Derived.Test.YtgdkekdedgkglaaAb4
import Derived.Test.YtgdkekdedgkglaaCd1
import Derived.Test.YtgdkekdedgkglaaAb5
set_option linter.unusedVariables false
set_option linter.unusedSimpArgs false
set_option linter.unusedSectionVars false
section
/- The scheduler: Done, New. -/
namespace Go.Proofs.Ytgdkekdedgkglaa
open Go.Abs Go.Abs.Sch
set_option maxRecDepth 100000
attribute [local irreducible] unitAt EvQ
variable {h : AW} {μ : Paint} {ρ : Store} {Q : Value → AW → Prop}

theorem i_done_ok {key : Str} {I : IM} (O : Own h μ ρ) (R : ImpAt ρ I) (K : DoneI I.m key) (hq : ImpTo Q ρ I (.int .i64 ((idone I.m key).1 : Nat)) (idone I.m key).2) :
    EvQ P f_p_sched_Sched_Done [.pointer (some ⟨I.p, 0, none⟩), .string key] h Q := by
  have hnt : I.t.length ≤ 1000 := by simpa [IM.m, IM.ts] using K.nt
  have hnq : I.queue.length ≤ 100000 := K.nq
  have hnd : (mkeys I.ts).Nodup := K.nodup
  refine r_p_sched_Sched_Done ?_
  simp only [oB_some, bC_true, bC_false, vInt_int, vBool_bool, vStr_string, vPtr_pointer, vSl_slice, vMap_map, vFun_func, vAgg_agg, vTup_tuple, lC_cons, lN_nil, aP_some, shO_none, shO_some, Option.isNone_none, Option.isNone_some, Bool.not_true, Bool.not_false]
  obtain ⟨μ1, ρ1, c, O1, W1, hc⟩ := w_new O R [.string key]
  generalize h.addVar [.string key] = h1 at *
  generalize h.next = b at *
  refine w_rd O1 W1 1 (j := 0) rfl rfl ?_
  simp only [oB_some, bC_true, bC_false, vInt_int, vBool_bool, vStr_string, vPtr_pointer, vSl_slice, vMap_map, vFun_func, vAgg_agg, vTup_tuple, lC_cons, lN_nil, aP_some, shO_none, shO_some, Option.isNone_none, Option.isNone_some, Bool.not_true, Bool.not_false]
  refine w_rd O1 W1 0 (j := 0) rfl rfl ?_
  simp only [oB_some, bC_true, bC_false, vInt_int, vBool_bool, vStr_string, vPtr_pointer, vSl_slice, vMap_map, vFun_func, vAgg_agg, vTup_tuple, lC_cons, lN_nil, aP_some, shO_none, shO_some, Option.isNone_none, Option.isNone_some, Bool.not_true, Bool.not_false]
  refine i_look (l := I.t) O1 W1 2 rfl key ?_
  refine w_rd O1 W1 0 (j := 0) rfl rfl ?_
  simp only [oB_some, bC_true, bC_false, vInt_int, vBool_bool, vStr_string, vPtr_pointer, vSl_slice, vMap_map, vFun_func, vAgg_agg, vTup_tuple, lC_cons, lN_nil, aP_some, shO_none, shO_some, Option.isNone_none, Option.isNone_some, Bool.not_true, Bool.not_false]
  refine i_state_ok (I := I) O1 W1.self.tail' ?_
  simp only [oB_some, bC_true, bC_false, vInt_int, vBool_bool, vStr_string, vPtr_pointer, vSl_slice, vMap_map, vFun_func, vAgg_agg, vTup_tuple, lC_cons, lN_nil, aP_some, shO_none, shO_some, Option.isNone_none, Option.isNone_some, Bool.not_true, Bool.not_false]
  cases e : iget I.t key with
  | none =>
    have hm : mget I.ts key = none := by unfold IM.ts; rw [iget_m, e]; rfl
    have hs : mst I.ts key = 0 := by unfold mst; rw [hm]
    have hd : idone I.m key = (4, I.m) := by unfold idone; rw [show mget I.m.tasks key = none from hm]
    rw [hd] at hq
    rw [hs]
    exact hq _ _ _ I O1 (W1.tail hc).self rfl rfl (FrN.of (W1.tail hc).fra)
  | some x =>
    have hm : mget I.ts key = some x.m := by unfold IM.ts; rw [iget_m, e]; rfl
    have hs : mst I.ts key = x.m.st := by unfold mst; rw [hm]
    rw [hs]
    obtain ⟨hxk, j, hxj, hjl⟩ := iget_at e
    have hxm : x.m ∈ I.ts := List.mem_map.2 ⟨x, List.mem_of_getElem? hxj, rfl⟩
    simp only [Option.map_some, oB_some, bC_true, bC_false, vInt_int, vBool_bool, vStr_string, vPtr_pointer, vSl_slice, vMap_map, vFun_func, vAgg_agg, vTup_tuple, lC_cons, lN_nil, aP_some, shO_none, shO_some, Option.isNone_none, Option.isNone_some, Bool.not_true, Bool.not_false]
    refine bC_iff (fun e2 => ?_) (fun e2 => ?_)
    · -- busy
      have e2 : x.m.st = 2 := by simp at e2; omega
      refine w_rd O1 W1 0 (j := 0) rfl rfl ?_
      simp only [oB_some, bC_true, bC_false, vInt_int, vBool_bool, vStr_string, vPtr_pointer, vSl_slice, vMap_map, vFun_func, vAgg_agg, vTup_tuple, lC_cons, lN_nil, aP_some, shO_none, shO_some, Option.isNone_none, Option.isNone_some, Bool.not_true, Bool.not_false]
      refine i_leave_ok (I := I) O1 W1.self.tail' (by have := K.nsl; exact Nat.le_trans this (by omega)) (K.slot (show mst I.ts key = 2 by rw [hs]; exact e2)) fun h2 ρ2 O2 R2 => ?_
      let I2 : IM := { I with slots := ileave I.slots key }
      have W2 : Pcs ρ ρ2 (c :: I2.ns) (.var b [.string key] :: I2.rs) := by
        refine ⟨W1.nodup, by have := W1.len; simpa using this, fun q d r hd hr => ?_, fun d r hd hr => ?_⟩
        · cases q with
          | zero =>
            refine R2.fra d r ?_ (W1.at_ 0 d r (by simpa using hd) (by simpa using hr))
            simp at hd
            rw [← hd]; exact pcs_notin W1
          | succ q => exact R2.at_ q d r (by simpa using hd) (by simpa using hr)
        · exact R2.fra d r (fun hm => hd (List.mem_cons_of_mem _ hm)) (W1.fra d r hd hr)
      have hd : idone I.m key = (0, { ((x.m.ws.foldl (wake key) ⟨mupL I.ts key fun t => { t with st := 4 }, ileave I.slots key, I.queue⟩) : MI) with tasks := mupL (x.m.ws.foldl (wake key) ⟨mupL I.ts key fun t => { t with st := 4 }, ileave I.slots key, I.queue⟩).tasks key fun t => { t with ws := [] } }) := by
        unfold idone
        rw [show mget I.m.tasks key = some x.m from hm]
        simp only
        rw [if_pos (.inl e2), if_neg (by omega), if_pos e2]
        rw [mget_mupL (f := fun t => { t with st := 4 }) (fun _ => rfl), if_pos rfl, show mget I.m.tasks key = some x.m from hm]
        rfl
      refine done_tail (I := I2) hxj hxk hnd K.st (K.ws x.m hxm).1 (K.ws x.m hxm).2 (Nat.le_trans hnt (by omega)) (Nat.le_trans hnq (by omega)) hc O2 W2 fun h' μ' ρ' I' O' W' a b' c' => ?_
      rw [hd] at hq
      exact hq h' μ' ρ' I' O' (W'.self.names b'.symm) a c' ⟨b' ▸ W'.fra, fun d hd => .inl (by rw [b'] at hd; exact hd), fun d hd => by rw [b']; exact hd⟩
    refine bC_iff (fun e3 => ?_) (fun e3 => ?_)
    · -- waiting
      have e3 : x.m.st = 3 := by simp at e3; omega
      refine w_rd O1 W1 1 (j := 0) rfl rfl ?_
      simp only [oB_some, bC_true, bC_false, vInt_int, vBool_bool, vStr_string, vPtr_pointer, vSl_slice, vMap_map, vFun_func, vAgg_agg, vTup_tuple, lC_cons, lN_nil, aP_some, shO_none, shO_some, Option.isNone_none, Option.isNone_some, Bool.not_true, Bool.not_false]
      have hrx : (Res.var b [.string key] :: I.rs)[5 + (j * 2 + 0)]? = some (.var x.id x.cells) := by
        rw [show 5 + (j * 2 + 0) = (4 + (j * 2 + 0)) + 1 from by omega, List.getElem?_cons_succ]
        exact t_rs hxj (by omega)
      refine w_rd O1 W1 (5 + (j * 2 + 0)) (j := 1) hrx rfl ?_
      simp only [oB_some, bC_true, bC_false, vInt_int, vBool_bool, vStr_string, vPtr_pointer, vSl_slice, vMap_map, vFun_func, vAgg_agg, vTup_tuple, lC_cons, lN_nil, aP_some, shO_none, shO_some, Option.isNone_none, Option.isNone_some, Bool.not_true, Bool.not_false]
      obtain ⟨ty, hty⟩ := K.on x.m hxm e3
      obtain ⟨y, i, hy, hym, hyi, hil, hyk⟩ := iget_of (I := I) hty
      refine i_look (l := I.t) O1 W1 2 rfl x.m.on ?_
      simp only [hy, Option.map_some, oB_some, bC_true, bC_false, vInt_int, vBool_bool, vStr_string, vPtr_pointer, vSl_slice, vMap_map, vFun_func, vAgg_agg, vTup_tuple, lC_cons, lN_nil, aP_some, shO_none, shO_some, Option.isNone_none, Option.isNone_some, Bool.not_true, Bool.not_false]
      have hry : ∀ {k : Nat} {r : Res}, k < 2 → y.rs[k]? = some r → (Res.var b [.string key] :: I.rs)[5 + (i * 2 + k)]? = some r := fun {k r} hk hr => by
        rw [show 5 + (i * 2 + k) = (4 + (i * 2 + k)) + 1 from by omega, List.getElem?_cons_succ]
        exact (t_rs hyi hk).trans hr
      have hyM : y.m ∈ I.ts := List.mem_map.2 ⟨y, List.mem_of_getElem? hyi, rfl⟩
      refine w_rd O1 W1 (5 + (i * 2 + 0)) (j := 2) (hry (by omega) rfl) rfl ?_
      simp only [oB_some, bC_true, bC_false, vInt_int, vBool_bool, vStr_string, vPtr_pointer, vSl_slice, vMap_map, vFun_func, vAgg_agg, vTup_tuple, lC_cons, lN_nil, aP_some, shO_none, shO_some, Option.isNone_none, Option.isNone_some, Bool.not_true, Bool.not_false]
      have hn2 : (c :: I.ns)[5 + (i * 2 + 1)]? = some y.n2 := by
        rw [show 5 + (i * 2 + 1) = (4 + (i * 2 + 1)) + 1 from by omega, List.getElem?_cons_succ]
        exact t_ns hyi (by omega)
      have hcy := W1.at_ _ _ _ hn2 (hry (by omega) rfl)
      have hcb := W1.at_ 0 _ _ rfl rfl
      have hcne : c ≠ y.n2 := fun e => by rw [e, hcy] at hcb; cases hcb
      refine del_ok (p := fun s => bEq s key) (c0 := y.n2) ?_ (by have := (K.ws y.m hyM).1; omega) O1 hcy fun h2 μ2 ρ2 O2 V2 => ?_
      · intro h' μ' ρ' s Q' O' F' hQ
        refine done_fn ?_ hQ
        have hc' := F' c _ (by simpa using hcne) hcb
        exact o_rd O' hc' (j := 0) rfl rfl
      simp only [oB_some, bC_true, bC_false, vInt_int, vBool_bool, vStr_string, vPtr_pointer, vSl_slice, vMap_map, vFun_func, vAgg_agg, vTup_tuple, lC_cons, lN_nil, aP_some, shO_none, shO_some, Option.isNone_none, Option.isNone_some, Bool.not_true, Bool.not_false]
      have W2 := W1.put hn2 V2
      have hr2 : ∀ {r : Res}, ((Res.var b [.string key] :: I.rs).set (5 + (i * 2 + 1)) r)[5 + (i * 2 + 0)]? = some (.var y.id y.cells) := fun {r} => by
        rw [List.getElem?_set_ne (by omega)]
        exact hry (by omega) rfl
      refine w_wr O2 W2 (5 + (i * 2 + 0)) (j := 2) hr2 (show 2 < 4 by omega) rfl fun h3 ρ3 O3 W3 => ?_
      let y1 : IT := { y with m := { y.m with ws := y.m.ws.filter fun k => !bEq k key } }
      let I1 : IM := I.up i y1
      have hns1 : I1.ns = I.ns := congrArg (fun l => I.n0 :: I.n1 :: I.n2 :: I.n3 :: l) (ns_set (x' := y1) hyi rfl)
      have hts1 : I1.ts = mupL I.ts x.m.on fun t => { t with ws := t.ws.filter fun k => !bEq k key } := by
        show (I.up i y1).ts = _
        rw [up_ts]
        exact mupL_set (f := fun t => { t with ws := t.ws.filter fun k => !bEq k key }) hnd (show I.ts[i]? = some y.m by simp [IM.ts, hyi]) hyk
      have hk1 : mkeys I1.ts = mkeys I.ts := by rw [hts1]; exact mupL_keys (f := fun t => { t with ws := t.ws.filter fun k => !bEq k key }) (fun _ => rfl) _
      have hyst := K.st y.m hyM
      have W3 : Pcs ρ ρ3 (c :: I1.ns) (.var b [.string key] :: I1.rs) := by
        refine (W3.names (by rw [hns1])).eq ?_
        rw [show 5 + (i * 2 + 0) = (4 + (i * 2 + 0)) + 1 from by omega, show 5 + (i * 2 + 1) = (4 + (i * 2 + 1)) + 1 from by omega]
        simp only [List.set_cons_succ]
        rw [t_set2 (x' := y1) (ra := .var y.id (y.cells.set 2 (.slice y.wa (y.m.ws.filter fun s => !bEq s key).length y.wc))) (rb := .sl y.wa y.wc 1 (strs (y.m.ws.filter fun s => !bEq s key))) hyi rfl]
        have h1 : I.head = I1.head := by
          have g1 := fun s => manyOf_set (l := I.ts) (j := i) (t := y.m) (t' := y1.m) (by simp [IM.ts, hyi]) (by omega) (show y.m.st ≠ 0 by omega) s
          have g4 : I1.ts = I.ts.set i y1.m := up_ts
          have g5 : ∀ s, manyOf I1.ts s = manyOf I.ts s := fun s => by rw [g4, g1 s]; show _ - (if y.m.st = s then 1 else 0) + (if y.m.st = s then 1 else 0) = _; omega
          unfold IM.head
          simp only [g5]
          rfl
        have h2 : ents I1.t = ents I.t := up_ents (x' := y1) hyi rfl rfl
        rw [h1, ← h2]
      obtain ⟨t1, ht1⟩ : ∃ t, mget I1.ts key = some t := by
        have := mget_keys key hk1
        rw [hm] at this
        exact isSome_ex (by simpa using this)
      obtain ⟨x1, j1, hx1, hx1m, hx1j, hj1l, hx1k⟩ := iget_of ht1
      have hid : x1.id = x.id ∧ j1 = j := by
        have hj1 : j1 = j := by
          have hnd1 : (mkeys I1.ts).Nodup := by rw [hk1]; exact hnd
          have h1 : (mkeys I1.ts)[j1]? = some key := by simp [mkeys, IM.ts, hx1j, hx1k]
          have h2 : (mkeys I1.ts)[j]? = some key := by rw [hk1]; simp [mkeys, IM.ts, hxj, hxk]
          have a1 := List.getElem?_eq_some_iff.1 h1
          have a2 := List.getElem?_eq_some_iff.1 h2
          exact (List.getElem_inj (h₀ := a1.1) (h₁ := a2.1) hnd1).1 (by rw [a1.2, a2.2])
        subst hj1
        refine ⟨?_, rfl⟩
        have : (I.t.set i y1)[j1]? = some x1 := hx1j
        rw [List.getElem?_set] at this
        split at this
        · rename_i eij
          subst eij
          first | rw [if_pos hil] at this | skip
          cases this
          rw [hxj] at hyi; cases hyi; rfl
        · rw [hxj] at this; cases this; rfl
      obtain ⟨hid, rfl⟩ := hid
      have hst1 : ∀ t, t ∈ I1.ts → 1 ≤ t.st ∧ t.st ≤ 4 := fun t ht => by
        rw [hts1] at ht
        obtain ⟨z, hz, e⟩ := List.mem_map.1 ht
        have := K.st z hz
        rw [← e]; split <;> exact this
      have hws1 : x1.m.ws.length ≤ 1000 ∧ ∀ k, k ∈ x1.m.ws → ∃ t', mget I.ts k = some t' := by
        have : x1.m ∈ I1.ts := List.mem_map.2 ⟨x1, List.mem_of_getElem? hx1j, rfl⟩
        rw [hts1] at this
        obtain ⟨z, hz, e⟩ := List.mem_map.1 this
        have hz' := K.ws z hz
        rw [← e]
        split
        · refine ⟨Nat.le_trans (List.length_filter_le _ _) hz'.1, fun k hk => hz'.2 k (List.mem_filter.1 hk).1⟩
        · exact hz'
      have hd : idone I.m key = (0, { ((x1.m.ws.foldl (wake key) ⟨mupL I1.ts key fun t => { t with st := 4 }, I.slots, I.queue⟩) : MI) with tasks := mupL (x1.m.ws.foldl (wake key) ⟨mupL I1.ts key fun t => { t with st := 4 }, I.slots, I.queue⟩).tasks key fun t => { t with ws := [] } }) := by
        unfold idone
        rw [show mget I.m.tasks key = some x.m from hm]
        simp only
        rw [if_pos (.inr e3), if_pos e3, if_neg (by omega)]
        rw [mget_mupL (f := fun t => { t with st := 4 }) (fun _ => rfl), if_pos rfl]
        rw [show mupL I.m.tasks x.m.on (fun t => { t with ws := t.ws.filter fun k => !bEq k key }) = I1.ts from hts1.symm]
        rw [ht1, ← hx1m]
        rfl
      rw [← hid]
      refine done_tail (I := I1) hx1j hx1k (by rw [hk1]; exact hnd) hst1 hws1.1 (fun k hk => ?_) (by simp only [I1, List.length_set]; omega) (Nat.le_trans hnq (by omega)) hc O3 W3 fun h' μ' ρ' I' O' W' a b' c' => ?_
      · obtain ⟨t', h'⟩ := hws1.2 k hk
        have := mget_keys k hk1
        rw [h'] at this
        exact isSome_ex (by simpa using this)
      · rw [hd] at hq
        have b'' : I'.ns = I.ns := b'.trans hns1
        exact hq h' μ' ρ' I' O' (W'.self.names b'.symm) a c' ⟨hns1 ▸ W'.fra, fun d hd => .inl (by rw [b''] at hd; exact hd), fun d hd => by rw [b'']; exact hd⟩
    · have hd : idone I.m key = (4, I.m) := by
        unfold idone
        rw [show mget I.m.tasks key = some x.m from hm]
        simp only
        rw [if_neg]
        simp at e2 e3
        omega
      rw [hd] at hq
      exact hq _ _ _ I O1 (W1.tail hc).self rfl rfl (FrN.of (W1.tail hc).fra)
/-- How many slots. -/
def slotsOf (n : Int) : Nat := (if 64 < (if 1 > n then 1 else n) then 64 else if 1 > n then 1 else n).toNat
theorem slotsOf_eq (n : Int) : (if 64 < (if 1 > n then 1 else n) then 64 else if 1 > n then 1 else n) = (slotsOf n : Int) := by
  unfold slotsOf
  split <;> split <;> omega
theorem slotsOf_range (n : Int) : 1 ≤ slotsOf n ∧ slotsOf n ≤ 64 := by
  unfold slotsOf
  split <;> split <;> omega
theorem i_new_ok {n : Int} (O : Own h μ ρ) (hq : ∀ h' μ' ρ' (I : IM), Own h' μ' ρ' → Pcs ρ ρ' I.ns I.rs → I.m = ⟨[], List.replicate (slotsOf n) e0, []⟩ → (∀ c, c ∈ I.ns → ρ c = none) → Q (.pointer (some ⟨I.p, 0, none⟩)) h') :
    EvQ P f_sched_New [.int .i64 n] h Q := by
  refine r_sched_New ?_
  rw [slotsOf_eq]
  have hr := slotsOf_range n
  obtain ⟨cm, hcm⟩ := O.fresh
  have O1 := o_addMap O cm
  have W1 : Pcs ρ (ρ.upd cm (.map h.next [])) [cm] [.map h.next []] := p0.new hcm _
  refine w_make (P := P) O1 W1 ti_ty_sl_string ti_ty_string (slotsOf n) rfl ?_ (by omega) (by omega) fun h2 μ2 ρ2 cs sa O2 W2 hcs => ?_
  · show allOne (rep [.string _] _) = true
    rw [rep_one]; exact allOne_of fun v hv => by rw [(List.mem_replicate.1 hv).2]; rfl
  simp only [oB_some, bC_true, bC_false, vInt_int, vBool_bool, vStr_string, vPtr_pointer, vSl_slice, vMap_map, vFun_func, vAgg_agg, vTup_tuple, lC_cons, lN_nil, aP_some, shO_none, shO_some, Option.isNone_none, Option.isNone_some, Bool.not_true, Bool.not_false]
  obtain ⟨ρ3, cq, O3, W3, hcq⟩ := w_nil O2 W2 1
  obtain ⟨μ4, ρ4, c0, O4, W4, hc0⟩ := w_new O3 W3 [.map (some h.next), .slice sa (slotsOf n) (slotsOf n), .slice none 0 0, .int .i64 0, .int .i64 0, .int .i64 0, .int .i64 0, .int .i64 0]
  let I : IM := ⟨[], List.replicate (slotsOf n) e0, [], c0, cm, cs, cq, h2.next, h.next, sa, slotsOf n, none, 0⟩
  refine hq _ _ _ I O4 ?_ rfl ?_
  · have hnd := W4.nodup
    have a0 := W4.at_ 0 _ _ rfl rfl
    have a1 := W4.at_ 1 _ _ rfl rfl
    have a2 := W4.at_ 2 _ _ rfl rfl
    have a3 := W4.at_ 3 _ _ rfl rfl
    refine ⟨?_, rfl, fun i c r hc hr => ?_, fun c r hn hc => W4.fra c r (fun hm => hn ?_) hc⟩
    · simp only [I, List.flatMap_nil]
      simp only [List.nodup_cons, List.mem_cons, List.not_mem_nil, or_false, not_or, not_false_eq_true, true_and, and_true, List.nodup_nil] at hnd ⊢
      simp only [List.flatMap_nil, List.not_mem_nil, List.nodup_nil, not_false_eq_true, and_true]
      omega
    · match i with
      | 0 => simp [I] at hc hr; subst hc hr; rw [a0]; simp [IM.head, IM.ts, manyOf]
      | 1 => simp [I] at hc hr; subst hc hr; rw [a3]; simp [ents, keyd]
      | 2 => simp [I] at hc hr; subst hc hr; rw [a2]; show some (Res.sl sa _ 1 (rep [.string e0] _)) = _; rw [rep_one]
      | 3 => simp [I] at hc hr; subst hc hr; rw [a1]
      | k + 4 => simp [I] at hc
    · simp only [I, List.flatMap_nil, List.mem_cons, List.not_mem_nil, or_false] at hm ⊢
      rcases hm with x | x | x | x <;> simp [x]
  · intro c hc
    simp only [I, List.flatMap_nil, List.mem_cons, List.not_mem_nil, or_false] at hc
    rcases hc with rfl | rfl | rfl | rfl
    · exact hc0
    · exact hcm
    · exact hcs
    · exact hcq
end Go.Proofs.Ytgdkekdedgkglaa
end

section
/- The scheduler: what its functions come to where the invariant holds. -/
namespace Go.Proofs.Ytgdkekdedgkglaa
open Go.Abs Go.Abs.Sch
set_option maxRecDepth 100000
attribute [local irreducible] unitAt EvQ
variable {h : AW} {μ : Paint} {ρ : Store} {Q : Value → AW → Prop}

theorem fillI_of {m : MI} {B : Nat} (K : IOk m) (S : Sz m B) (hB : B ≤ 900000) : FillI m m.slots.length :=
  ⟨K.nodup, fun k hk => let ⟨t, ht, _⟩ := K.ig.q1 k hk; ⟨t, ht⟩, fun t ht => K.ig.st t.key t (K.mem ht), fun t ht => by have := S.st t ht; have := S.ns; omega, by have := S.nt; omega, by have := K.queue_le; have := S.nt; omega⟩
theorem waitI_of {m : MI} {B : Nat} {key : Str} (K : IOk m) (S : Sz m B) : WaitI m key :=
  ⟨K.nodup, fun t ht => K.ig.st t.key t (K.mem ht), fun t ht h3 => let ⟨t', h', _⟩ := K.ig.w2 t.key t (K.mem ht) h3; ⟨t', h'⟩, fun h => let ⟨t, ht, h2⟩ := mst_some h (by omega); K.ig.s2 key t ht h2,
    fun t ht => by have := K.ws_le ht; have := S.nt; omega, by have := S.nt; omega, by have := K.queue_le; have := S.nt; omega, by have := S.ns; omega⟩
theorem doneI_of {m : MI} {B : Nat} {key : Str} (K : IOk m) (S : Sz m B) : DoneI m key :=
  ⟨K.nodup, fun t ht => K.ig.st t.key t (K.mem ht), fun t ht h3 => let ⟨t', h', _⟩ := K.ig.w2 t.key t (K.mem ht) h3; ⟨t', h'⟩, fun h => let ⟨t, ht, h2⟩ := mst_some h (by omega); K.ig.s2 key t ht h2,
    fun t ht => ⟨by have := K.ws_le ht; have := S.nt; omega, fun k hk => let ⟨t', h', _⟩ := K.ig.w1 t.key t (K.mem ht) k hk; ⟨t', h'⟩⟩, by have := S.nt; omega, by have := K.queue_le; have := S.nt; omega, by have := S.ns; omega⟩

/-- A scheduler of this state stands. -/
def At (ρ : Store) (I : IM) (m : MI) : Prop := ImpAt ρ I ∧ I.m = m
theorem At.ts {I : IM} {m : MI} (A : At ρ I m) : I.ts = m.tasks := by rw [← A.2]; rfl
theorem At.slots {I : IM} {m : MI} (A : At ρ I m) : I.slots = m.slots := by rw [← A.2]; rfl
theorem At.queue {I : IM} {m : MI} (A : At ρ I m) : I.queue = m.queue := by rw [← A.2]; rfl
theorem At.tl {I : IM} {m : MI} (A : At ρ I m) : I.t.length = m.tasks.length := by rw [← A.ts]; simp [IM.ts]
theorem At.keep {ns ms : List Nat} {ρ' : Store} {I : IM} {m : MI} (A : At ρ I m) (F : FrN ns ρ ms ρ') (hd : ∀ c, c ∈ ns → c ∉ I.ns) : At ρ' I m := ⟨A.1.keep F.1 hd, A.2⟩
/-- What a call may do: the scheduler's own names. -/
def Acts (Q : Value → AW → Prop) (ρ : Store) (I : IM) (v : Value) (m' : MI) : Prop :=
  ∀ h' μ' ρ' (I' : IM), Own h' μ' ρ' → At ρ' I' m' → I'.p = I.p → FrN I.ns ρ I'.ns ρ' → Q v h'
/-- The same, and a fresh slice of strings. -/
def ActsS (F : Option Addr → Nat → AW → Prop) (ρ : Store) (I : IM) (x : List Str) (m' : MI) : Prop :=
  ∀ h' μ' ρ' (I' : IM) co oa oc, Own h' μ' ρ' → At ρ' I' m' → I'.p = I.p → FrN I.ns ρ I'.ns ρ' → ρ co = none → co ∉ I'.ns → ρ' co = some (.sl oa oc 1 (strs x)) → F oa oc h'
theorem a_want {ks : List Str} {a : Option Addr} {c B : Nat} {I : IM} {m : MI} (O : Own h μ ρ) (A : At ρ I m) (K : IOk m) (S : Sz m B) (hk : ks.length ≤ 1000) (X : Rd ρ I.ns a (strs ks)) (hq : Acts Q ρ I (.int .i64 ((iwant m ks).1 : Nat)) (iwant m ks).2) :
    EvQ P f_p_sched_Sched_Want [.pointer (some ⟨I.p, 0, none⟩), .slice a ks.length c] h Q := by
  have h1 := A.tl
  have h2 := K.queue_le
  have h3 := S.nt
  refine i_want_ok (by omega) O A.1 X (by omega) (by rw [A.queue]; omega) ?_
  rw [A.2]
  exact fun h' μ' ρ' I' O' R' a b F => hq h' μ' ρ' I' O' ⟨R', a⟩ b F
theorem a_fill {B : Nat} {I : IM} {m : MI} (O : Own h μ ρ) (A : At ρ I m) (K : IOk m) (S : Sz m B) (hB : B ≤ 900000)
    (hq : ActsS (fun oa oc h' => Q (.slice oa (ifillFrom m.slots.length m [] 0).2.length oc) h') ρ I (ifillFrom m.slots.length m [] 0).2 (ifillFrom m.slots.length m [] 0).1) :
    EvQ P f_p_sched_Sched_Fill [.pointer (some ⟨I.p, 0, none⟩)] h Q := by
  obtain ⟨A1, rfl⟩ := A
  refine i_fill_ok O A1 (by have := S.ns; exact Nat.le_trans this (by omega)) (fillI_of K S hB) fun h' μ' ρ' I' co oa oc O' W' hco a b c => ?_
  have hn := pcs_notin W'
  have W2 := W'.tail hco
  refine hq h' μ' ρ' I' co oa oc O' ⟨(W2.self.names b.symm), a⟩ c ⟨W2.fra, fun d hd => .inl (by rw [b] at hd; exact hd), fun d hd => by rw [b]; exact hd⟩ hco (by rw [b]; exact hn) (W'.at_ 0 _ _ rfl rfl)
theorem a_pick {B : Nat} {I : IM} {m : MI} {n : Int} (O : Own h μ ρ) (A : At ρ I m) (K : IOk m) (S : Sz m B) (h0 : 0 < m.slots.length) (hq : ∀ h' μ' ρ', Own h' μ' ρ' → At ρ' I m → FrN I.ns ρ I.ns ρ' → Q (ipickV m.slots n) h') :
    EvQ P f_p_sched_Sched_Pick [.pointer (some ⟨I.p, 0, none⟩), .int .i64 n] h Q := by
  obtain ⟨A1, rfl⟩ := A
  refine i_pick_ok O A1 h0 (by have := S.ns; exact Nat.le_trans this (by omega)) (K.pick h0 n) fun h' μ' ρ' O' W' => ?_
  exact hq h' μ' ρ' O' ⟨W'.self, rfl⟩ (FrN.of W'.fra)
theorem a_wait {B : Nat} {I : IM} {m : MI} {key on : Str} (O : Own h μ ρ) (A : At ρ I m) (K : IOk m) (S : Sz m B)
    (hq : ActsS (fun oa oc h' => Q (.tuple ⟨[.slice oa (iwait m key on).1.length oc, .int .i64 ((iwait m key on).2.1 : Nat)]⟩) h') ρ I (iwait m key on).1 (iwait m key on).2.2) :
    EvQ P f_p_sched_Sched_Wait [.pointer (some ⟨I.p, 0, none⟩), .string key, .string on] h Q := by
  obtain ⟨A1, rfl⟩ := A
  refine i_wait_ok O A1 (waitI_of K S) fun h' μ' ρ' I' co oa oc O' W' a hco b F => ?_
  exact hq h' μ' ρ' I' co oa oc O' ⟨W'.tail', a⟩ b F hco (pcs_notin W') (W'.at_ 0 _ _ rfl rfl)
theorem a_done {B : Nat} {I : IM} {m : MI} {key : Str} (O : Own h μ ρ) (A : At ρ I m) (K : IOk m) (S : Sz m B) (hq : Acts Q ρ I (.int .i64 ((idone m key).1 : Nat)) (idone m key).2) :
    EvQ P f_p_sched_Sched_Done [.pointer (some ⟨I.p, 0, none⟩), .string key] h Q := by
  obtain ⟨A1, rfl⟩ := A
  exact i_done_ok O A1 (doneI_of K S) fun h' μ' ρ' I' O' R' a b F => hq h' μ' ρ' I' O' ⟨R', a⟩ b F
theorem a_state {I : IM} {m : MI} {k : Str} (O : Own h μ ρ) (A : At ρ I m) (hq : Q (.int .i64 (mst m.tasks k : Nat)) h) : EvQ P f_p_sched_Sched_State [.pointer (some ⟨I.p, 0, none⟩), .string k] h Q :=
  i_state_ok O A.1 (by rw [A.ts]; exact hq)
theorem a_starts {I : IM} {m : MI} {k : Str} (O : Own h μ ρ) (A : At ρ I m) (hq : Q (.int .i64 (mstarts m.tasks k : Nat)) h) : EvQ P f_p_sched_Sched_Starts [.pointer (some ⟨I.p, 0, none⟩), .string k] h Q :=
  i_starts_ok O A.1 (by rw [A.ts]; exact hq)
theorem a_over {B : Nat} {I : IM} {m : MI} (O : Own h μ ρ) (A : At ρ I m) (S : Sz m B) (hq : Q (.bool (!ilive m.tasks && (manyOf m.tasks 3 == 0))) h) : EvQ P f_p_sched_Sched_Over [.pointer (some ⟨I.p, 0, none⟩)] h Q :=
  i_over_ok O A.1 (by have := A.tl; have := S.nt; omega) (by rw [A.ts]; exact hq)
theorem a_stuck {B : Nat} {I : IM} {m : MI} (O : Own h μ ρ) (A : At ρ I m) (S : Sz m B) (hq : Q (.bool (!ilive m.tasks && decide (manyOf m.tasks 3 > 0))) h) : EvQ P f_p_sched_Sched_Stuck [.pointer (some ⟨I.p, 0, none⟩)] h Q :=
  i_stuck_ok O A.1 (by have := A.tl; have := S.nt; omega) (by rw [A.ts]; exact hq)
theorem a_queue {B : Nat} {I : IM} {m : MI} (O : Own h μ ρ) (A : At ρ I m) (K : IOk m) (S : Sz m B) (hq : NewS Q ρ m.queue) : EvQ P f_p_sched_Sched_Queue [.pointer (some ⟨I.p, 0, none⟩)] h Q :=
  i_queue_ok O A.1 (by rw [A.queue]; have := K.queue_le; have := S.nt; omega) (by rw [A.queue]; exact hq)
theorem a_slots {B : Nat} {I : IM} {m : MI} (O : Own h μ ρ) (A : At ρ I m) (S : Sz m B) (hq : NewS Q ρ m.slots) : EvQ P f_p_sched_Sched_Slots [.pointer (some ⟨I.p, 0, none⟩)] h Q :=
  i_slots_ok O A.1 (by rw [A.slots]; have := S.ns; omega) (by rw [A.slots]; exact hq)
theorem a_new {n : Int} (O : Own h μ ρ) (hq : ∀ h' μ' ρ' (I : IM), Own h' μ' ρ' → At ρ' I ⟨[], List.replicate (slotsOf n) e0, []⟩ → Fra [] ρ ρ' → (∀ c, c ∈ I.ns → ρ c = none) → Q (.pointer (some ⟨I.p, 0, none⟩)) h') : EvQ P f_sched_New [.int .i64 n] h Q :=
  i_new_ok O fun h' μ' ρ' I O' W' a hf => hq h' μ' ρ' I O' ⟨W'.self, a⟩ (fun c r _ hc => W'.fra c r (fun hm => by rw [hf c hm] at hc; cases hc) hc) hf
end Go.Proofs.Ytgdkekdedgkglaa
end

section
/- Rules of walks, printed by a program of ours: group Law. -/
namespace Go.Proofs.Ytgdkekdedgkglaa
open Go.Abs
set_option maxRecDepth 100000
theorem r_brickyardlaw20_SchedPlays {n1 : Int} {p2 : Option Addr} {m3 : Nat} {m4 : Nat} {h : AW} {Q : Value → AW → Prop} (H : EvQ P f_brickyardlaw20_works [] h fun v5 h6 => vBool v5 fun b7 => bC (!b7) (Q (Value.bool
  false) h6) (bC (decide ((↑m3 : Int) > 200)) (Q (Value.bool true) h6) (EvQ P f_sched_New [Value.int IntKind.i64 n1] h6 fun v8 h9 => vPtr v8 fun p10 => EvQ P f_brickyardref20_New [Value.int IntKind.i64
  n1] h9 fun v11 h12 => vPtr v11 fun p13 => bC (Option.isNone p10) (Q (Value.bool false) h12) (unitAt P f_brickyardlaw20_SchedPlays 9 [5, 6, 28, 29, 30] [Value.pointer p10, Value.pointer p13, Value.slice
  p2 m3 m4, Value.int IntKind.i64 (↑m3 : Int), Value.int IntKind.i64 0] h12 Q)))) : EvQ P f_brickyardlaw20_SchedPlays [Value.int IntKind.i64 n1, Value.slice p2 m3 m4] h Q := fn_ok (n := 400) (ann := annOf
  [(9, [5, 6, 28, 29, 30]), (30, [5, 6, 8, 28, 29, 30])]) (Eq.mp (by kernel_rfl) H)
theorem r_brickyardlaw20_SchedPlays_9 {p1 : Option Addr} {p2 : Option Addr} {p3 : Option Addr} {m4 : Nat} {m5 : Nat} {n6 : Int} {n7 : Int} {h : AW} {Q : Value → AW → Prop} (H : bC (decide (n7 < n6)) (aP
  p3 fun m8 m9 => oB (natIdx n7 m4) fun m10 => oB (AW.rd h m8 (m9 + m10 * 4)) fun v11 => vInt IntKind.i64 v11 fun n12 => oB (AW.rd h m8 (m9 + m10 * 4 + 1)) fun v13 => vStr v13 fun
  s14 => oB (AW.rd h m8 (m9 + m10 * 4 + 1 + 1)) fun v15 => vStr v15 fun s16 => oB (AW.rd h m8 (m9 + m10 * 4 + 1 + 1 + 1)) fun v17 => vInt IntKind.i64 v17 fun n18 => oB (AW.wrL
  (AW.addVar h [Value.int IntKind.i64 0, Value.string (ByteArray.mk #[]), Value.string (ByteArray.mk #[]), Value.int IntKind.i64 0]) (AW.next h) 0 [Value.int IntKind.i64 n12,
  Value.string s14, Value.string s16, Value.int IntKind.i64 n18]) fun h19 => oB (AW.rd h19 (AW.next h) 0) fun v20 => vInt IntKind.i64 v20 fun n21 => bC (n21 == 0) (oB (AW.rd h19
  (AW.next h) 1) fun v22 => vStr v22 fun s23 => oB (AW.rd h19 (AW.next h) 2) fun v24 => vStr v24 fun s25 => EvQ P f_p_sched_Sched_Want [Value.pointer p1, Value.slice (some (Addr.mk (AW.next h19) 0
  none)) 2 2] (AW.addVar h19 [Value.string s23, Value.string s25]) fun v26 h27 => vInt IntKind.i64 v26 fun n28 => oB (AW.rd h27 (AW.next h) 1) fun v29 => vStr v29 fun s30 => oB
  (AW.rd h27 (AW.next h) 2) fun v31 => vStr v31 fun s32 => EvQ P f_p_brickyardref20_Sched_Want [Value.pointer p2, Value.slice (some (Addr.mk (AW.next h27) 0 none)) 2 2] (AW.addVar h27 [Value.string s30,
  Value.string s32]) fun v33 h34 => vInt IntKind.i64 v33 fun n35 => oB (AW.rd h19 (AW.next h) 1) fun v36 => vStr v36 fun s37 => Value.string s37 = Value.string s30 ∧ oB (AW.rd
  (AW.addVar h19 [Value.string s23, Value.string s25]) (AW.next h) 1) fun v38 => vStr v38 fun s39 => Value.string s39 = Value.string s30 ∧ oB (AW.rd h19 (AW.next h) 2) fun v40 =>
  vStr v40 fun s41 => Value.string s41 = Value.string s32 ∧ oB (AW.rd (AW.addVar h19 [Value.string s23, Value.string s25]) (AW.next h) 2) fun v42 => vStr v42 fun s43 =>
  Value.string s43 = Value.string s32 ∧ bC (n28 != n35) (Q (Value.bool false) h34) (unitAt P f_brickyardlaw20_SchedPlays 30 [5, 6, 8, 28, 29, 30] [Value.pointer p1, Value.pointer p2, Value.pointer (some
  (Addr.mk (AW.next h) 0 none)), Value.slice p3 m4 m5, Value.int IntKind.i64 n6, Value.int IntKind.i64 n7] h34 Q)) (bC (n21 == 1) (EvQ P f_p_sched_Sched_Fill [Value.pointer p1] h19 fun v44 h45 =>
  vSl v44 fun p46 m47 m48 => EvQ P f_p_brickyardref20_Sched_Fill [Value.pointer p2] h45 fun v49 h50 => vSl v49 fun p51 m52 m53 => EvQ P f_slices_Equal_sl_string_string [Value.slice p46 m47 m48, Value.slice p51 m52 m53] h50 fun v54
  h55 => vBool v54 fun b56 => bC (!b56) (Q (Value.bool false) h55) (unitAt P f_brickyardlaw20_SchedPlays 30 [5, 6, 8, 28, 29, 30] [Value.pointer p1, Value.pointer p2, Value.pointer (some (Addr.mk (AW.next
  h) 0 none)), Value.slice p3 m4 m5, Value.int IntKind.i64 n6, Value.int IntKind.i64 n7] h55 Q)) (bC (n21 == 2) (oB (AW.rd h19 (AW.next h) 3) fun v57 => vInt IntKind.i64 v57 fun
  n58 => EvQ P f_p_sched_Sched_Pick [Value.pointer p1, Value.int IntKind.i64 n58] h19 fun v59 h60 => vTup v59 fun l61 => lC l61 fun v62 l63 => vStr v62 fun s64 => lC l63 fun v65 l66 => vBool v65
  fun b67 => lN l66 (oB (AW.rd h60 (AW.next h) 3) fun v68 => vInt IntKind.i64 v68 fun n69 => EvQ P f_p_brickyardref20_Sched_Pick [Value.pointer p2, Value.int IntKind.i64 n69] h60 fun v70 h71 => vTup v70
  fun l72 => lC l72 fun v73 l74 => vStr v73 fun s75 => lC l74 fun v76 l77 => vBool v76 fun b78 => lN l77 (bC (!bEq s64 s75) (Q (Value.bool false) h71) (bC (!b67 == b78) (Q
  (Value.bool false) h71) (unitAt P f_brickyardlaw20_SchedPlays 30 [5, 6, 8, 28, 29, 30] [Value.pointer p1, Value.pointer p2, Value.pointer (some (Addr.mk (AW.next h) 0 none)), Value.slice p3 m4 m5,
  Value.int IntKind.i64 n6, Value.int IntKind.i64 n7] h71 Q))))) (bC (n21 == 3) (oB (AW.rd h19 (AW.next h) 1) fun v79 => vStr v79 fun s80 => oB (AW.rd h19 (AW.next h) 2) fun v81 =>
  vStr v81 fun s82 => EvQ P f_p_sched_Sched_Wait [Value.pointer p1, Value.string s80, Value.string s82] h19 fun v83 h84 => vTup v83 fun l85 => lC l85 fun v86 l87 => vSl v86 fun p88 m89 m90 => lC
  l87 fun v91 l92 => vInt IntKind.i64 v91 fun n93 => lN l92 (oB (AW.rd h84 (AW.next h) 1) fun v94 => vStr v94 fun s95 => oB (AW.rd h84 (AW.next h) 2) fun v96 => vStr v96 fun s97 =>
  EvQ P f_p_brickyardref20_Sched_Wait [Value.pointer p2, Value.string s95, Value.string s97] h84 fun v98 h99 => vTup v98 fun l100 => lC l100 fun v101 l102 => vSl v101 fun p103 m104 m105 => lC l102 fun v106
  l107 => vInt IntKind.i64 v106 fun n108 => lN l107 (EvQ P f_slices_Equal_sl_string_string [Value.slice p88 m89 m90, Value.slice p103 m104 m105] h99 fun v109 h110 => vBool v109 fun b111 => bC (!b111) (Q
  (Value.bool false) h110) (bC (!((↑m89 : Int) == 0) == ((↑m104 : Int) == 0)) (Q (Value.bool false) h110) (bC (n93 != n108) (Q (Value.bool false) h110) (unitAt P f_brickyardlaw20_SchedPlays 30 [5, 6, 8,
  28, 29, 30] [Value.pointer p1, Value.pointer p2, Value.pointer (some (Addr.mk (AW.next h) 0 none)), Value.slice p3 m4 m5, Value.int IntKind.i64 n6, Value.int IntKind.i64 n7] h110
  Q)))))) (oB (AW.rd h19 (AW.next h) 1) fun v112 => vStr v112 fun s113 => EvQ P f_p_sched_Sched_Done [Value.pointer p1, Value.string s113] h19 fun v114 h115 => vInt IntKind.i64 v114 fun n116 => oB
  (AW.rd h115 (AW.next h) 1) fun v117 => vStr v117 fun s118 => EvQ P f_p_brickyardref20_Sched_Done [Value.pointer p2, Value.string s118] h115 fun v119 h120 => vInt IntKind.i64 v119 fun n121 => oB (AW.rd
  h19 (AW.next h) 1) fun v122 => vStr v122 fun s123 => Value.string s123 = Value.string s118 ∧ bC (n116 != n121) (Q (Value.bool false) h120) (unitAt P f_brickyardlaw20_SchedPlays 30 [5, 6, 8, 28, 29, 30]
  [Value.pointer p1, Value.pointer p2, Value.pointer (some (Addr.mk (AW.next h) 0 none)), Value.slice p3 m4 m5, Value.int IntKind.i64 n6, Value.int IntKind.i64 n7] h120 Q)))))) (Q
  (Value.bool true) h)) : unitAt P f_brickyardlaw20_SchedPlays 9 [5, 6, 28, 29, 30] [Value.pointer p1, Value.pointer p2, Value.slice p3 m4 m5, Value.int IntKind.i64 n6, Value.int IntKind.i64 n7] h Q :=
  unit_ok (n := 400) (ann := annOf [(9, [5, 6, 28, 29, 30]), (30, [5, 6, 8, 28, 29, 30])]) (Eq.mp (by kernel_rfl) H)
theorem r_brickyardlaw20_SchedPlays_30 {p1 : Option Addr} {p2 : Option Addr} {m3 : Nat} {p4 : Option Addr} {m5 : Nat} {m6 : Nat} {n7 : Int} {n8 : Int} {h : AW} {Q : Value → AW → Prop} (H : oB (AW.rd h
  m3 1) fun v9 => vStr v9 fun s10 => oB (AW.rd h m3 2) fun v11 => vStr v11 fun s12 => EvQ P f_brickyardlaw20_tells [Value.pointer p1, Value.pointer p2, Value.slice (some (Addr.mk (AW.next h) 0
  none)) 2 2] (AW.addVar h [Value.string s10, Value.string s12]) fun v13 h14 => vBool v13 fun b15 => bC (!b15) (Q (Value.bool false) h14) (unitAt P f_brickyardlaw20_SchedPlays 9 [5, 6, 28, 29, 30]
  [Value.pointer p1, Value.pointer p2, Value.slice p4 m5 m6, Value.int IntKind.i64 n7, Value.int IntKind.i64 (IntKind.wrap IntKind.i64 (n8 + 1))] h14 Q)) : unitAt P f_brickyardlaw20_SchedPlays 30 [5, 6,
  8, 28, 29, 30] [Value.pointer p1, Value.pointer p2, Value.pointer (some (Addr.mk m3 0 none)), Value.slice p4 m5 m6, Value.int IntKind.i64 n7, Value.int IntKind.i64 n8] h Q :=
  unit_ok (n := 400) (ann := annOf [(9, [5, 6, 28, 29, 30]), (30, [5, 6, 8, 28, 29, 30])]) (Eq.mp (by kernel_rfl) H)
theorem r_brickyardlaw20_works {h : AW} {Q : Value → AW → Prop} (H : EvQ P f_sched_New [Value.int IntKind.i64 2] h fun v1 h2 => vPtr v1 fun p3 => bC (Option.isNone p3) (Q (Value.bool false) h2) (EvQ P f_p_sched_Sched_Want
  [Value.pointer p3, Value.slice (some (Addr.mk (AW.next h2) 0 none)) 3 3] (AW.addVar h2 [Value.string (ByteArray.mk #[97]), Value.string (ByteArray.mk #[98]), Value.string
  (ByteArray.mk #[99])]) fun v4 h5 => vInt IntKind.i64 v4 fun n6 => bC (n6 != 0) (Q (Value.bool false) h5) (EvQ P f_p_sched_Sched_Fill [Value.pointer p3] h5 fun v7 h8 => vSl v7 fun p9 m10 m11 =>
  EvQ P f_slices_Equal_sl_string_string [Value.slice p9 m10 m11, Value.slice (some (Addr.mk (AW.next h8) 0 none)) 2 2] (AW.addVar h8 [Value.string (ByteArray.mk #[97]), Value.string (ByteArray.mk #[98])]) fun
  v12 h13 => vBool v12 fun b14 => bC (!b14) (Q (Value.bool false) h13) (EvQ P f_p_sched_Sched_Wait [Value.pointer p3, Value.string (ByteArray.mk #[97]), Value.string (ByteArray.mk #[98])] h13 fun
  v15 h16 => vTup v15 fun l17 => lC l17 fun v18 l19 => vSl v18 fun p20 m21 m22 => lC l19 fun v23 l24 => vInt IntKind.i64 v23 fun n25 => lN l24 (EvQ P f_p_sched_Sched_Pick [Value.pointer p3,
  Value.int IntKind.i64 0] h16 fun v26 h27 => vTup v26 fun l28 => lC l28 fun v29 l30 => vStr v29 fun s31 => lC l30 fun v32 l33 => vBool v32 fun b34 => lN l33 (bC ((↑m21 : Int) ==
  0) (bC (n25 == 0) (bC (bEq s31 (ByteArray.mk #[98])) (bC b34 (EvQ P f_p_sched_Sched_State [Value.pointer p3, Value.string (ByteArray.mk #[97])] h27 fun v35 h36 => vInt IntKind.i64 v35 fun n37 =>
  bC (n37 == 3) (EvQ P f_p_sched_Sched_Done [Value.pointer p3, Value.string (ByteArray.mk #[98])] h36 fun v38 h39 => vInt IntKind.i64 v38 fun n40 => bC (n40 == 0) (EvQ P f_p_sched_Sched_Queue [Value.pointer p3]
  h39 fun v41 h42 => vSl v41 fun p43 m44 m45 => EvQ P f_slices_Equal_sl_string_string [Value.slice p43 m44 m45, Value.slice (some (Addr.mk (AW.next h42) 0 none)) 2 2] (AW.addVar h42 [Value.string
  (ByteArray.mk #[99]), Value.string (ByteArray.mk #[97])]) fun v46 h47 => vBool v46 fun b48 => Q (Value.bool b48) h47) (Q (Value.bool false) h39)) (Q (Value.bool false) h36)) (Q
  (Value.bool false) h27)) (Q (Value.bool false) h27)) (Q (Value.bool false) h27)) (Q (Value.bool false) h27))))))) : EvQ P f_brickyardlaw20_works [] h Q := fn_ok (n := 400) (ann := annOf []) (Eq.mp
  (by kernel_rfl) H)
theorem r_brickyardlaw20_tells {p1 : Option Addr} {p2 : Option Addr} {p3 : Option Addr} {m4 : Nat} {m5 : Nat} {h : AW} {Q : Value → AW → Prop} (H : unitAt P f_brickyardlaw20_tells 2 [0, 1, 12, 13, 14]
  [Value.pointer p1, Value.pointer p2, Value.slice p3 m4 m5, Value.int IntKind.i64 (↑m4 : Int), Value.int IntKind.i64 0] h Q) : EvQ P f_brickyardlaw20_tells [Value.pointer p1, Value.pointer p2,
  Value.slice p3 m4 m5] h Q := fn_ok (n := 400) (ann := annOf [(2, [0, 1, 12, 13, 14])]) (Eq.mp (by kernel_rfl) H)
theorem r_brickyardlaw20_tells_2 {p1 : Option Addr} {p2 : Option Addr} {p3 : Option Addr} {m4 : Nat} {m5 : Nat} {n6 : Int} {n7 : Int} {h : AW} {Q : Value → AW → Prop} (H : bC (decide (n7 < n6))
  (aP p3 fun m8 m9 => oB (natIdx n7 m4) fun m10 => oB (AW.rd h m8 (m9 + m10 * 1)) fun v11 => vStr v11 fun s12 => EvQ P f_p_sched_Sched_State [Value.pointer p1, Value.string s12] h fun v13 h14 =>
  vInt IntKind.i64 v13 fun n15 => EvQ P f_p_brickyardref20_Sched_State [Value.pointer p2, Value.string s12] h14 fun v16 h17 => vInt IntKind.i64 v16 fun n18 => bC (n15 != n18) (Q (Value.bool false) h17) (EvQ
  P f_p_sched_Sched_Starts [Value.pointer p1, Value.string s12] h17 fun v19 h20 => vInt IntKind.i64 v19 fun n21 => EvQ P f_p_brickyardref20_Sched_Starts [Value.pointer p2, Value.string s12] h20 fun v22 h23 => vInt IntKind.i64
  v22 fun n24 => bC (n21 != n24) (Q (Value.bool false) h23) (unitAt P f_brickyardlaw20_tells 2 [0, 1, 12, 13, 14] [Value.pointer p1, Value.pointer p2, Value.slice p3 m4 m5, Value.int IntKind.i64 n6,
  Value.int IntKind.i64 (IntKind.wrap IntKind.i64 (n7 + 1))] h23 Q))) (EvQ P f_p_brickyardref20_Sched_Some [Value.pointer p2, Value.int IntKind.i64 1] h fun v25 h26 => vBool v25 fun b27 => bC b27 (EvQ P
  f_p_sched_Sched_Slots [Value.pointer p1] h26 fun v28 h29 => vSl v28 fun p30 m31 m32 => aP p2 fun m33 m34 => oB (AW.rd h29 m33 (m34 + 1)) fun v35 => vSl v35 fun p36 m37 m38 => EvQ P f_slices_Equal_sl_string_string
  [Value.slice p30 m31 m32, Value.slice p36 m37 m38] h29 fun v39 h40 => vBool v39 fun b41 => bC b41 (EvQ P f_p_sched_Sched_Queue [Value.pointer p1] h40 fun v42 h43 => vSl v42 fun p44 m45 m46 => aP
  p2 fun m47 m48 => oB (AW.rd h43 m47 (m48 + 2)) fun v49 => vSl v49 fun p50 m51 m52 => EvQ P f_slices_Equal_sl_string_string [Value.slice p44 m45 m46, Value.slice p50 m51 m52] h43 fun v53 h54 => vBool v53 fun
  b55 => oB (AW.rd h40 m47 (m48 + 2)) fun v56 => vSl v56 fun p57 m58 m59 => Value.slice p57 m58 m59 = Value.slice p50 m51 m52 ∧ oP (clearB P h54 (Array.mk [ty_sl_string]) [Value.slice p30
  m31 m32]) fun v60 h61 => bC b55 (EvQ P f_p_sched_Sched_Stuck [Value.pointer p1] h61 fun v62 h63 => vBool v62 fun b64 => bC (b64 == false) (EvQ P f_p_sched_Sched_Over [Value.pointer p1] h63 fun v65 h66 => vBool
  v65 fun b67 => Q (Value.bool (b67 == false)) h66) (Q (Value.bool false) h63)) (Q (Value.bool false) h61)) (oP (clearB P h40 (Array.mk [ty_sl_string]) [Value.slice p30 m31 m32]) fun v68
  h69 => Q (Value.bool false) h69)) (EvQ P f_p_brickyardref20_Sched_Some [Value.pointer p2, Value.int IntKind.i64 2] h26 fun v70 h71 => vBool v70 fun b72 => EvQ P f_p_sched_Sched_Slots [Value.pointer p1] h71 fun v73 h74 =>
  vSl v73 fun p75 m76 m77 => aP p2 fun m78 m79 => oB (AW.rd h74 m78 (m79 + 1)) fun v80 => vSl v80 fun p81 m82 m83 => EvQ P f_slices_Equal_sl_string_string [Value.slice p75 m76 m77, Value.slice p81 m82 m83]
  h74 fun v84 h85 => vBool v84 fun b86 => bC b86 (EvQ P f_p_sched_Sched_Queue [Value.pointer p1] h85 fun v87 h88 => vSl v87 fun p89 m90 m91 => aP p2 fun m92 m93 => oB (AW.rd h88 m92 (m93 + 2)) fun
  v94 => vSl v94 fun p95 m96 m97 => EvQ P f_slices_Equal_sl_string_string [Value.slice p89 m90 m91, Value.slice p95 m96 m97] h88 fun v98 h99 => vBool v98 fun b100 => oB (AW.rd h85 m92 (m93 + 2)) fun v101 =>
  vSl v101 fun p102 m103 m104 => Value.slice p102 m103 m104 = Value.slice p95 m96 m97 ∧ oP (clearB P h99 (Array.mk [ty_sl_string]) [Value.slice p75 m76 m77]) fun v105 h106 => bC b100 (EvQ
  P f_p_sched_Sched_Stuck [Value.pointer p1] h106 fun v107 h108 => vBool v107 fun b109 => bC (!b72) (EvQ P f_p_brickyardref20_Sched_Some [Value.pointer p2, Value.int IntKind.i64 3] h108 fun v110 h111 => vBool v110 fun b112
  => bC (b109 == b112) (EvQ P f_p_sched_Sched_Over [Value.pointer p1] h111 fun v113 h114 => vBool v113 fun b115 => bC (!b72) (EvQ P f_p_brickyardref20_Sched_Some [Value.pointer p2, Value.int IntKind.i64 3] h114 fun v116
  h117 => vBool v116 fun b118 => Q (Value.bool (b115 == !b118)) h117) (Q (Value.bool (b115 == false)) h114)) (Q (Value.bool false) h111)) (bC (b109 == false) (EvQ P f_p_sched_Sched_Over
  [Value.pointer p1] h108 fun v119 h120 => vBool v119 fun b121 => bC (!b72) (EvQ P f_p_brickyardref20_Sched_Some [Value.pointer p2, Value.int IntKind.i64 3] h120 fun v122 h123 => vBool v122 fun b124 => Q
  (Value.bool (b121 == !b124)) h123) (Q (Value.bool (b121 == false)) h120)) (Q (Value.bool false) h108))) (Q (Value.bool false) h106)) (oP (clearB P h85 (Array.mk [ty_sl_string])
  [Value.slice p75 m76 m77]) fun v125 h126 => Q (Value.bool false) h126)))) : unitAt P f_brickyardlaw20_tells 2 [0, 1, 12, 13, 14] [Value.pointer p1, Value.pointer p2, Value.slice p3 m4 m5,
  Value.int IntKind.i64 n6, Value.int IntKind.i64 n7] h Q := unit_ok (n := 400) (ann := annOf [(2, [0, 1, 12, 13, 14])]) (Eq.mp (by kernel_rfl) H)
end Go.Proofs.Ytgdkekdedgkglaa
end

section
/- The scheduler works: the law's own test of it. -/
namespace Go.Proofs.Ytgdkekdedgkglaa
open Go.Abs Go.Abs.Sch
set_option maxRecDepth 100000
attribute [local irreducible] unitAt EvQ
variable {h : AW} {μ : Paint} {ρ : Store} {Q : Value → AW → Prop}
abbrev sa : Str := ⟨#[97]⟩
abbrev sb : Str := ⟨#[98]⟩
abbrev sc : Str := ⟨#[99]⟩
def w0 : MI := ⟨[], List.replicate (slotsOf 2) e0, []⟩
def w1 : MI := (iwant w0 [sa, sb, sc]).2
def w2 : MI := (ifillFrom w1.slots.length w1 [] 0).1
def w3 : MI := (iwait w2 sa sb).2.2
def w4 : MI := (idone w3 sb).2
theorem fra_call {ns : List Nat} {ρ ρ1 ρ2 : Store} {ns' : List Nat} (F : Fra [] ρ ρ1) (F2 : FrN ns ρ1 ns' ρ2) (hn : ∀ c, c ∈ ns → ρ c = none) : Fra [] ρ ρ2 := fun c r _ hc => F2.1 c r (fun hm => by rw [hn c hm] at hc; cases hc) (F c r (by simp) hc)
theorem new_names {ns ns' : List Nat} {ρ ρ1 ρ2 : Store} (F : Fra [] ρ ρ1) (F2 : FrN ns ρ1 ns' ρ2) (hn : ∀ c, c ∈ ns → ρ c = none) : ∀ c, c ∈ ns' → ρ c = none := fun c hc => by
  rcases F2.2.1 c hc with x | x
  · exact hn c x
  · cases hz : ρ c with
    | none => rfl
    | some r => rw [F c r (by simp) hz] at x; cases x
theorem works_ok (O : Own h μ ρ) (hq : ∀ h' μ' ρ', Own h' μ' ρ' → Fra [] ρ ρ' → Q (.bool true) h') : EvQ P f_brickyardlaw20_works [] h Q := by
  have K0 : IOk w0 := iok_new _
  have S0 : Sz w0 0 := sz_new (of_decide_eq_true (by kernel_rfl))
  have K1 : IOk w1 := iok_want K0
  have S1 : Sz w1 0 := sz_want S0 (of_decide_eq_true (by kernel_rfl))
  have K2 : IOk w2 := iok_fill _ K1
  have S2 : Sz w2 2 := sz_fill 2 S1
  have K3 : IOk w3 := iok_wait K2
  have S3 : Sz w3 2 := (sz_wait S2 (of_decide_eq_true (by kernel_rfl))).1
  have K4 : IOk w4 := iok_done K3
  have S4 : Sz w4 2 := (sz_done K3 S3).1
  refine r_brickyardlaw20_works ?_
  refine a_new (n := 2) O fun h1 μ1 ρ1 I1 O1 A1 F1 n1 => ?_
  have A1 : At ρ1 I1 w0 := A1
  simp only [oB_some, bC_true, bC_false, vInt_int, vBool_bool, vStr_string, vPtr_pointer, vSl_slice, vMap_map, vFun_func, vAgg_agg, vTup_tuple, lC_cons, lN_nil, aP_some, shO_none, shO_some, Option.isNone_none, Option.isNone_some, Bool.not_true, Bool.not_false]
  obtain ⟨μ2, ρ2, c2, O2, W2, hc2⟩ := w_block O1 A1.1 (strs [sa, sb, sc]) (n := 3) (sz := 1) rfl rfl
  have A2 : At ρ2 I1 w0 := ⟨W2.self.tail', A1.2⟩
  have F2 : Fra [] ρ ρ2 := fra_call F1 (FrN.of (W2.tail hc2).fra) n1
  have X2 : Rd ρ2 I1.ns (some ⟨h1.next, 0, none⟩) (strs [sa, sb, sc]) := Rd.of_sl O2 (pcs_notin W2) (W2.at_ 0 _ _ rfl rfl)
  refine a_want (ks := [sa, sb, sc]) O2 A2 K0 S0 (by simp) X2 fun h3 μ3 ρ3 I3 O3 A3 p3 F3 => ?_
  have n3 := new_names F2 F3 n1
  have F3 := fra_call F2 F3 n1
  rw [show (iwant w0 [sa, sb, sc]).1 = 0 from by kernel_rfl]
  simp only [oB_some, bC_true, bC_false, vInt_int, vBool_bool, vStr_string, vPtr_pointer, vSl_slice, vMap_map, vFun_func, vAgg_agg, vTup_tuple, lC_cons, lN_nil, aP_some, shO_none, shO_some, Option.isNone_none, Option.isNone_some, Bool.not_true, Bool.not_false, show (((0 : Nat) : Int) != 0) = false from rfl]
  rw [← p3]
  have A3 : At ρ3 I3 w1 := A3
  refine a_fill O3 A3 K1 S1 (by omega) fun h4 μ4 ρ4 I4 co oa oc O4 A4 p4 F4 hco hcn W4 => ?_
  have n4 := new_names F3 F4 n3
  have F4 := fra_call F3 F4 n3
  have A4 : At ρ4 I4 w2 := A4
  simp only [oB_some, bC_true, bC_false, vInt_int, vBool_bool, vStr_string, vPtr_pointer, vSl_slice, vMap_map, vFun_func, vAgg_agg, vTup_tuple, lC_cons, lN_nil, aP_some, shO_none, shO_some, Option.isNone_none, Option.isNone_some, Bool.not_true, Bool.not_false]
  obtain ⟨μ5, ρ5, c5, O5, W5, hc5⟩ := w_block O4 A4.1 (strs [sa, sb]) (n := 2) (sz := 1) rfl rfl
  have A5 : At ρ5 I4 w2 := ⟨W5.self.tail', A4.2⟩
  have F5 : Fra [] ρ ρ5 := fra_call F4 (FrN.of (W5.tail hc5).fra) n4
  refine equal_ok (y := [sa, sb]) (O5.sl ((W5.tail hc5).fra _ _ hcn W4)) (O5.sl (W5.at_ 0 _ _ rfl rfl)) (of_decide_eq_true (by kernel_rfl)) ?_
  rw [show decide ((ifillFrom w1.slots.length w1 [] 0).2 = [sa, sb]) = true from by kernel_rfl]
  simp only [oB_some, bC_true, bC_false, vInt_int, vBool_bool, vStr_string, vPtr_pointer, vSl_slice, vMap_map, vFun_func, vAgg_agg, vTup_tuple, lC_cons, lN_nil, aP_some, shO_none, shO_some, Option.isNone_none, Option.isNone_some, Bool.not_true, Bool.not_false]
  rw [← p4]
  refine a_wait O5 A5 K2 S2 fun h6 μ6 ρ6 I6 co6 oa6 oc6 O6 A6 p6 F6 hco6 hcn6 W6 => ?_
  have n6 := new_names F5 F6 n4
  have F6 := fra_call F5 F6 n4
  have A6 : At ρ6 I6 w3 := A6
  simp only [oB_some, bC_true, bC_false, vInt_int, vBool_bool, vStr_string, vPtr_pointer, vSl_slice, vMap_map, vFun_func, vAgg_agg, vTup_tuple, lC_cons, lN_nil, aP_some, shO_none, shO_some, Option.isNone_none, Option.isNone_some, Bool.not_true, Bool.not_false]
  rw [← p6]
  refine a_pick O6 A6 K3 S3 (of_decide_eq_true (by kernel_rfl)) fun h7 μ7 ρ7 O7 A7 F7 => ?_
  have F7 := fra_call F6 F7 n6
  rw [show ipickV w3.slots 0 = .tuple ⟨[.string sb, .bool true]⟩ from by kernel_rfl]
  simp only [oB_some, bC_true, bC_false, vInt_int, vBool_bool, vStr_string, vPtr_pointer, vSl_slice, vMap_map, vFun_func, vAgg_agg, vTup_tuple, lC_cons, lN_nil, aP_some, shO_none, shO_some, Option.isNone_none, Option.isNone_some, Bool.not_true, Bool.not_false]
  rw [show (iwait w2 sa sb).1.length = 0 from by kernel_rfl, show (iwait w2 sa sb).2.1 = 0 from by kernel_rfl]
  rw [show (((0 : Nat) : Int) == 0) = true from rfl]
  simp only [oB_some, bC_true, bC_false, vInt_int, vBool_bool, vStr_string, vPtr_pointer, vSl_slice, vMap_map, vFun_func, vAgg_agg, vTup_tuple, lC_cons, lN_nil, aP_some, shO_none, shO_some, Option.isNone_none, Option.isNone_some, Bool.not_true, Bool.not_false, bEq_self]
  refine a_state O7 A7 ?_
  rw [show mst w3.tasks sa = 3 from by kernel_rfl]
  simp only [oB_some, bC_true, bC_false, vInt_int, vBool_bool, vStr_string, vPtr_pointer, vSl_slice, vMap_map, vFun_func, vAgg_agg, vTup_tuple, lC_cons, lN_nil, aP_some, shO_none, shO_some, Option.isNone_none, Option.isNone_some, Bool.not_true, Bool.not_false, show (((3 : Nat) : Int) == 3) = true from rfl]
  refine a_done O7 A7 K3 S3 fun h8 μ8 ρ8 I8 O8 A8 p8 F8 => ?_
  have n8 := new_names F7 F8 n6
  have F8 := fra_call F7 F8 n6
  have A8 : At ρ8 I8 w4 := A8
  rw [show (idone w3 sb).1 = 0 from by kernel_rfl]
  simp only [oB_some, bC_true, bC_false, vInt_int, vBool_bool, vStr_string, vPtr_pointer, vSl_slice, vMap_map, vFun_func, vAgg_agg, vTup_tuple, lC_cons, lN_nil, aP_some, shO_none, shO_some, Option.isNone_none, Option.isNone_some, Bool.not_true, Bool.not_false, show (((0 : Nat) : Int) == 0) = true from rfl]
  rw [← p8]
  refine a_queue O8 A8 K4 S4 fun h9 μ9 ρ9 co9 oa9 oc9 O9 W9 hco9 => ?_
  simp only [oB_some, bC_true, bC_false, vInt_int, vBool_bool, vStr_string, vPtr_pointer, vSl_slice, vMap_map, vFun_func, vAgg_agg, vTup_tuple, lC_cons, lN_nil, aP_some, shO_none, shO_some, Option.isNone_none, Option.isNone_some, Bool.not_true, Bool.not_false]
  have F9 : Fra [] ρ ρ9 := fun c r hn hc => W9.fra c r (fun hm => by simp at hm; subst hm; rw [F8 _ r (by simp) hc] at hco9; cases hco9) (F8 c r hn hc)
  obtain ⟨μ10, ρ10, c10, O10, W10, hc10⟩ := w_block O9 W9.self (strs [sc, sa]) (n := 2) (sz := 1) rfl rfl
  refine equal_ok (y := [sc, sa]) (O10.sl (W10.at_ 1 _ _ rfl rfl)) (O10.sl (W10.at_ 0 _ _ rfl rfl)) (of_decide_eq_true (by kernel_rfl)) ?_
  rw [show decide (w4.queue = [sc, sa]) = true from by kernel_rfl]
  simp only [oB_some, bC_true, bC_false, vInt_int, vBool_bool, vStr_string, vPtr_pointer, vSl_slice, vMap_map, vFun_func, vAgg_agg, vTup_tuple, lC_cons, lN_nil, aP_some, shO_none, shO_some, Option.isNone_none, Option.isNone_some, Bool.not_true, Bool.not_false]
  exact hq _ _ _ O10 fun c r hn hc => (W10.tail hc10).fra c r (fun hm => by simp at hm; subst hm; rw [F8 _ r (by simp) hc] at hco9; cases hco9) (F9 c r hn hc)
end Go.Proofs.Ytgdkekdedgkglaa
end

section
/- Rules of walks, printed by a program of ours: group Ref. -/
namespace Go.Proofs.Ytgdkekdedgkglaa
open Go.Abs
set_option maxRecDepth 100000
theorem r_brickyardref20_New {n1 : Int} {h : AW} {Q : Value → AW → Prop} (H : oP (makeSliceV P h ty_sl_string (Value.int IntKind.i64 (if 64 < if 1 > n1 then 1 else n1 then 64 else if 1 > n1 then 1 else
  n1)) (Value.int IntKind.i64 (if 64 < if 1 > n1 then 1 else n1 then 64 else if 1 > n1 then 1 else n1))) fun v2 h3 => vSl v2 fun p4 m5 m6 => Q (Value.pointer (some (Addr.mk
  (AW.next h3) 0 none))) (AW.addVar h3 [Value.slice none 0 0, Value.slice p4 m5 m6, Value.slice none 0 0, Value.int IntKind.i64 0])) : EvQ P f_brickyardref20_New [Value.int IntKind.i64 n1] h Q :=
  fn_ok (n := 400) (ann := annOf []) (Eq.mp (by kernel_rfl) H)
theorem r_p_brickyardref20_Sched_Want {p1 : Option Addr} {p2 : Option Addr} {m3 : Nat} {m4 : Nat} {h : AW} {Q : Value → AW → Prop} (H : unitAt P f_p_brickyardref20_Sched_Want 2 [0, 1, 5] [Value.pointer p1, Value.slice p2 m3 m4,
  Value.int IntKind.i64 0] h Q) : EvQ P f_p_brickyardref20_Sched_Want [Value.pointer p1, Value.slice p2 m3 m4] h Q := fn_ok (n := 400) (ann := annOf [(2, [0, 1, 5]), (7, [0, 1, 6])]) (Eq.mp (by kernel_rfl)
  H)
theorem r_p_brickyardref20_Sched_Want_2 {p1 : Option Addr} {p2 : Option Addr} {m3 : Nat} {m4 : Nat} {n5 : Int} {h : AW} {Q : Value → AW → Prop} (H : bC (decide (n5 < (↑m3 : Int))) (aP p2 fun m6 m7 => oB
  (natIdx n5 m3) fun m8 => oB (AW.rd h m6 (m7 + m8 * 1)) fun v9 => vStr v9 fun s10 => bC (bEq s10 (ByteArray.mk #[])) (Q (Value.int IntKind.i64 2) h) (unitAt P f_p_brickyardref20_Sched_Want 2 [0, 1, 5]
  [Value.pointer p1, Value.slice p2 m3 m4, Value.int IntKind.i64 (IntKind.wrap IntKind.i64 (n5 + 1))] h Q)) (unitAt P f_p_brickyardref20_Sched_Want 7 [0, 1, 6] [Value.pointer p1, Value.slice p2 m3 m4,
  Value.int IntKind.i64 0] h Q)) : unitAt P f_p_brickyardref20_Sched_Want 2 [0, 1, 5] [Value.pointer p1, Value.slice p2 m3 m4, Value.int IntKind.i64 n5] h Q := unit_ok (n := 400) (ann := annOf [(2, [0, 1,
  5]), (7, [0, 1, 6])]) (Eq.mp (by kernel_rfl) H)
theorem r_p_brickyardref20_Sched_Want_7 {p1 : Option Addr} {p2 : Option Addr} {m3 : Nat} {m4 : Nat} {n5 : Int} {h : AW} {Q : Value → AW → Prop} (H : bC (decide (n5 < (↑m3 : Int))) (aP p2 fun m6 m7 => oB
  (natIdx n5 m3) fun m8 => oB (AW.rd h m6 (m7 + m8 * 1)) fun v9 => vStr v9 fun s10 => EvQ P f_p_brickyardref20_Sched_find [Value.pointer p1, Value.string s10] h fun v11 h12 => vInt IntKind.i64 v11 fun n13
  => bC (decide (n13 < 0)) (aP p1 fun m14 m15 => oB (AW.rd h12 m14 m15) fun v16 => vSl v16 fun p17 m18 m19 => aP p2 fun m20 m21 => oB (natIdx n5 m3) fun m22 => oB (AW.rd h12 m20
  (m21 + m22 * 1)) fun v23 => vStr v23 fun s24 => oP (appendB P (AW.addVar h12 [Value.string s24, Value.int IntKind.i64 1, Value.string (ByteArray.mk #[]), Value.int IntKind.i64 0,
  Value.int IntKind.i64 0]) (Array.mk [ty_sl_brickyardref20_Task, ty_sl_brickyardref20_Task]) [Value.slice p17 m18 m19, Value.slice (some (Addr.mk (AW.next h12) 0 none)) 1 1]) fun v25 h26 => vSl v25 fun p27 m28 m29 => aP
  p1 fun m30 m31 => oB (AW.wr h26 m30 m31 (Value.slice p27 m28 m29)) fun h32 => oB (AW.rd (AW.addVar h12 [Value.string s24, Value.int IntKind.i64 1, Value.string (ByteArray.mk
  #[]), Value.int IntKind.i64 0, Value.int IntKind.i64 0]) m14 m15) fun v33 => vSl v33 fun p34 m35 m36 => Value.slice p34 m35 m36 = Value.slice p17 m18 m19 ∧ aP p1 fun m37 m38 =>
  oB (AW.rd h32 m37 (m38 + 2)) fun v39 => vSl v39 fun p40 m41 m42 => aP p2 fun m43 m44 => oB (natIdx n5 m3) fun m45 => oB (AW.rd h32 m43 (m44 + m45 * 1)) fun v46 => vStr v46 fun
  s47 => oP (appendB P (AW.addVar h32 [Value.string s47]) (Array.mk [ty_sl_string, ty_sl_string]) [Value.slice p40 m41 m42, Value.slice (some (Addr.mk (AW.next h32) 0 none)) 1 1]) fun v48 h49 =>
  vSl v48 fun p50 m51 m52 => aP p1 fun m53 m54 => oB (AW.wr h49 m53 (m54 + 2) (Value.slice p50 m51 m52)) fun h55 => oB (AW.rd (AW.addVar h32 [Value.string s47]) m37 (m38 + 2)) fun
  v56 => vSl v56 fun p57 m58 m59 => Value.slice p57 m58 m59 = Value.slice p40 m41 m42 ∧ unitAt P f_p_brickyardref20_Sched_Want 7 [0, 1, 6] [Value.pointer p1, Value.slice p2 m3 m4, Value.int IntKind.i64
  (IntKind.wrap IntKind.i64 (n5 + 1))] h55 Q) (unitAt P f_p_brickyardref20_Sched_Want 7 [0, 1, 6] [Value.pointer p1, Value.slice p2 m3 m4, Value.int IntKind.i64 (IntKind.wrap IntKind.i64 (n5 + 1))] h12 Q))
  (Q (Value.int IntKind.i64 0) h)) : unitAt P f_p_brickyardref20_Sched_Want 7 [0, 1, 6] [Value.pointer p1, Value.slice p2 m3 m4, Value.int IntKind.i64 n5] h Q := unit_ok (n := 400) (ann := annOf [(2, [0,
  1, 5]), (7, [0, 1, 6])]) (Eq.mp (by kernel_rfl) H)
theorem r_p_brickyardref20_Sched_Fill {p1 : Option Addr} {h : AW} {Q : Value → AW → Prop} (H : unitAt P f_p_brickyardref20_Sched_Fill 3 [0, 3, 4] [Value.pointer p1, Value.slice none 0 0, Value.int IntKind.i64 0] h Q) : EvQ P
  f_p_brickyardref20_Sched_Fill [Value.pointer p1] h Q := fn_ok (n := 400) (ann := annOf [(3, [0, 3, 4])]) (Eq.mp (by kernel_rfl) H)
theorem r_p_brickyardref20_Sched_Fill_3 {p1 : Option Addr} {p2 : Option Addr} {m3 : Nat} {m4 : Nat} {n5 : Int} {h : AW} {Q : Value → AW → Prop} (H : aP p1 fun m6 m7 => oB (AW.rd h m6 (m7 + 1)) fun v8 =>
  vSl v8 fun p9 m10 m11 => bC (decide (n5 < (↑m10 : Int))) (aP p1 fun m12 m13 => oB (AW.rd h m12 (m13 + 1)) fun v14 => vSl v14 fun p15 m16 m17 => aP p15 fun m18 m19 => oB (natIdx
  n5 m16) fun m20 => oB (AW.rd h m18 (m19 + m20 * 1)) fun v21 => vStr v21 fun s22 => bC (bEq s22 (ByteArray.mk #[])) (aP p1 fun m23 m24 => oB (AW.rd h m23 (m24 + 2)) fun v25 => vSl
  v25 fun p26 m27 m28 => bC (decide ((↑m27 : Int) > 0)) (aP p1 fun m29 m30 => oB (AW.rd h m29 (m30 + 2)) fun v31 => vSl v31 fun p32 m33 m34 => aP p32 fun m35 m36 => oB (natIdx 0
  m33) fun m37 => oB (AW.rd h m35 (m36 + m37 * 1)) fun v38 => vStr v38 fun s39 => aP p1 fun m40 m41 => oB (AW.rd (AW.addVar h []) m40 (m41 + 2)) fun v42 => vSl v42 fun p43 m44 m45
  => oB (natBnd 1 m44) fun m46 => bC (Nat.ble m44 m45) (oB (shO p43 (m46 * 1)) fun p47 => oP (appendB P (AW.addVar h []) (Array.mk [ty_sl_string, ty_sl_string]) [Value.slice (some (Addr.mk
  (AW.next h) 0 none)) 0 0, Value.slice p47 (m44 - m46) (m45 - m46)]) fun v48 h49 => vSl v48 fun p50 m51 m52 => aP p1 fun m53 m54 => oB (AW.wr h49 m53 (m54 + 2) (Value.slice p50
  m51 m52)) fun h55 => aP p1 fun m56 m57 => oB (AW.rd h55 m56 (m57 + 1)) fun v58 => vSl v58 fun p59 m60 m61 => aP p59 fun m62 m63 => oB (natIdx n5 m60) fun m64 => oB (AW.wr h55 m62
  (m63 + m64 * 1) (Value.string s39)) fun h65 => EvQ P f_p_brickyardref20_Sched_find [Value.pointer p1, Value.string s39] h65 fun v66 h67 => vInt IntKind.i64 v66 fun n68 => aP p1 fun m69 m70 => oB (AW.rd
  h67 m69 m70) fun v71 => vSl v71 fun p72 m73 m74 => aP p72 fun m75 m76 => oB (natIdx n68 m73) fun m77 => oB (AW.wr h67 m75 (m76 + m77 * 5 + 1) (Value.int IntKind.i64 2)) fun h78
  => aP p1 fun m79 m80 => oB (AW.rd h78 m79 m80) fun v81 => vSl v81 fun p82 m83 m84 => aP p82 fun m85 m86 => oB (natIdx n68 m83) fun m87 => oB (AW.rd h78 m85 (m86 + m87 * 5 + 4))
  fun v88 => vInt IntKind.i64 v88 fun n89 => aP p82 fun m90 m91 => oB (natIdx n68 m83) fun m92 => oB (AW.wr h78 m90 (m91 + m92 * 5 + 4) (Value.int IntKind.i64 (IntKind.wrap
  IntKind.i64 (n89 + 1)))) fun h93 => oP (appendB P (AW.addVar h93 [Value.string s39]) (Array.mk [ty_sl_string, ty_sl_string]) [Value.slice p2 m3 m4, Value.slice (some (Addr.mk (AW.next h93) 0
  none)) 1 1]) fun v94 h95 => vSl v94 fun p96 m97 m98 => unitAt P f_p_brickyardref20_Sched_Fill 3 [0, 3, 4] [Value.pointer p1, Value.slice p96 m97 m98, Value.int IntKind.i64 (IntKind.wrap IntKind.i64 (n5 +
  1))] h95 Q) False) (unitAt P f_p_brickyardref20_Sched_Fill 3 [0, 3, 4] [Value.pointer p1, Value.slice p2 m3 m4, Value.int IntKind.i64 (IntKind.wrap IntKind.i64 (n5 + 1))] h Q)) (unitAt P f_p_brickyardref20_Sched_Fill 3 [0, 3, 4]
  [Value.pointer p1, Value.slice p2 m3 m4, Value.int IntKind.i64 (IntKind.wrap IntKind.i64 (n5 + 1))] h Q)) (Q (Value.slice p2 m3 m4) h)) : unitAt P f_p_brickyardref20_Sched_Fill 3 [0, 3, 4] [Value.pointer
  p1, Value.slice p2 m3 m4, Value.int IntKind.i64 n5] h Q := unit_ok (n := 400) (ann := annOf [(3, [0, 3, 4])]) (Eq.mp (by kernel_rfl) H)
theorem r_p_brickyardref20_Sched_Pick {p1 : Option Addr} {n2 : Int} {h : AW} {Q : Value → AW → Prop} (H : aP p1 fun m3 m4 => oB (AW.rd h m3 (m4 + 1)) fun v5 => vSl v5 fun p6 m7 m8 => bC (decide ((↑m7 :
  Int) = 0)) False (bC (decide (Int.tmod n2 (↑m7 : Int) < 0)) (unitAt P f_p_brickyardref20_Sched_Pick 6 [0, 6, 7, 8] [Value.pointer p1, Value.int IntKind.i64 (↑m7 : Int), Value.int IntKind.i64
  (IntKind.wrap IntKind.i64 (Int.tmod n2 (↑m7 : Int) + (↑m7 : Int))), Value.int IntKind.i64 0] h Q) (unitAt P f_p_brickyardref20_Sched_Pick 6 [0, 6, 7, 8] [Value.pointer p1, Value.int IntKind.i64 (↑m7 :
  Int), Value.int IntKind.i64 (Int.tmod n2 (↑m7 : Int)), Value.int IntKind.i64 0] h Q))) : EvQ P f_p_brickyardref20_Sched_Pick [Value.pointer p1, Value.int IntKind.i64 n2] h Q := fn_ok (n := 400) (ann :=
  annOf [(6, [0, 6, 7, 8])]) (Eq.mp (by kernel_rfl) H)
theorem r_p_brickyardref20_Sched_Pick_6 {p1 : Option Addr} {n2 : Int} {n3 : Int} {n4 : Int} {h : AW} {Q : Value → AW → Prop} (H : bC (decide (n4 < n2)) (aP p1 fun m5 m6 => oB (AW.rd h m5 (m6 + 1)) fun v7
  => vSl v7 fun p8 m9 m10 => bC (decide (n2 = 0)) False (aP p8 fun m11 m12 => oB (natIdx (Int.tmod (IntKind.wrap IntKind.i64 (n3 + n4)) n2) m9) fun m13 => oB (AW.rd h m11 (m12 +
  m13 * 1)) fun v14 => vStr v14 fun s15 => bC (!bEq s15 (ByteArray.mk #[])) (Q (Value.tuple (Array.mk [Value.string s15, Value.bool true])) h) (unitAt P f_p_brickyardref20_Sched_Pick 6 [0, 6, 7, 8]
  [Value.pointer p1, Value.int IntKind.i64 n2, Value.int IntKind.i64 n3, Value.int IntKind.i64 (IntKind.wrap IntKind.i64 (n4 + 1))] h Q))) (Q (Value.tuple (Array.mk [Value.string
  (ByteArray.mk #[]), Value.bool false])) h)) : unitAt P f_p_brickyardref20_Sched_Pick 6 [0, 6, 7, 8] [Value.pointer p1, Value.int IntKind.i64 n2, Value.int IntKind.i64 n3, Value.int IntKind.i64 n4] h Q :=
  unit_ok (n := 400) (ann := annOf [(6, [0, 6, 7, 8])]) (Eq.mp (by kernel_rfl) H)
theorem r_p_brickyardref20_Sched_Wait {p1 : Option Addr} {s2 : ByteArray} {s3 : ByteArray} {h : AW} {Q : Value → AW → Prop} (H : bC (bEq s3 (ByteArray.mk #[])) (Q (Value.tuple (Array.mk [Value.slice none
  0 0, Value.int IntKind.i64 2])) h) (EvQ P f_p_brickyardref20_Sched_State [Value.pointer p1, Value.string s2] h fun v4 h5 => vInt IntKind.i64 v4 fun n6 => bC (n6 != 2) (Q (Value.tuple (Array.mk
  [Value.slice none 0 0, Value.int IntKind.i64 4])) h5) (EvQ P f_p_brickyardref20_Sched_State [Value.pointer p1, Value.string s3] h5 fun v7 h8 => vInt IntKind.i64 v7 fun n9 => bC (n9 == 4) (Q (Value.tuple
  (Array.mk [Value.slice none 0 0, Value.int IntKind.i64 0])) h8) (EvQ P f_p_brickyardref20_Sched_Want [Value.pointer p1, Value.slice (some (Addr.mk (AW.next h8) 0 none)) 1 1] (AW.addVar h8 [Value.string
  s3]) fun v10 h11 => vInt IntKind.i64 v10 fun n12 => EvQ P f_p_brickyardref20_Sched_find [Value.pointer p1, Value.string s2] h11 fun v13 h14 => vInt IntKind.i64 v13 fun n15 => aP p1 fun m16 m17 => oB
  (AW.rd h14 m16 (m17 + 3)) fun v18 => vInt IntKind.i64 v18 fun n19 => aP p1 fun m20 m21 => oB (AW.wr h14 m20 (m21 + 3) (Value.int IntKind.i64 (IntKind.wrap IntKind.i64 (n19 +
  1)))) fun h22 => aP p1 fun m23 m24 => oB (AW.rd h22 m23 m24) fun v25 => vSl v25 fun p26 m27 m28 => aP p1 fun m29 m30 => oB (AW.rd h22 m29 m30) fun v31 => vSl v31 fun p32 m33 m34
  => aP p1 fun m35 m36 => oB (AW.rd h22 m35 m36) fun v37 => vSl v37 fun p38 m39 m40 => aP p1 fun m41 m42 => oB (AW.rd h22 m41 (m42 + 3)) fun v43 => vInt IntKind.i64 v43 fun n44 =>
  aP p26 fun m45 m46 => oB (natIdx n15 m27) fun m47 => oB (AW.wr h22 m45 (m46 + m47 * 5 + 1) (Value.int IntKind.i64 3)) fun h48 => aP p32 fun m49 m50 => oB (natIdx n15 m33) fun m51
  => oB (AW.wr h48 m49 (m50 + m51 * 5 + 2) (Value.string s3)) fun h52 => aP p38 fun m53 m54 => oB (natIdx n15 m39) fun m55 => oB (AW.wr h52 m53 (m54 + m55 * 5 + 3) (Value.int
  IntKind.i64 n44)) fun h56 => EvQ P f_p_brickyardref20_Sched_leave [Value.pointer p1, Value.string s2] h56 fun v57 h58 => EvQ P f_p_brickyardref20_Sched_Circle [Value.pointer p1, Value.string s2] h58 fun v59 h60 => vSl v59 fun p61
  m62 m63 => Q (Value.tuple (Array.mk [Value.slice p61 m62 m63, Value.int IntKind.i64 0])) h60)))) : EvQ P f_p_brickyardref20_Sched_Wait [Value.pointer p1, Value.string s2, Value.string s3] h Q := fn_ok (n
  := 400) (ann := annOf []) (Eq.mp (by kernel_rfl) H)
theorem r_p_brickyardref20_Sched_Done {p1 : Option Addr} {s2 : ByteArray} {h : AW} {Q : Value → AW → Prop} (H : EvQ P f_p_brickyardref20_Sched_State [Value.pointer p1, Value.string s2] h fun v3 h4 => vInt IntKind.i64 v3 fun n5 =>
  bC (n5 != 2) (bC (n5 != 3) (Q (Value.int IntKind.i64 4) h4) (aP p1 fun m6 m7 => oB (AW.rd h4 m6 m7) fun v8 => vSl v8 fun p9 m10 m11 => EvQ P f_p_brickyardref20_Sched_find [Value.pointer p1, Value.string
  s2] h4 fun v12 h13 => vInt IntKind.i64 v12 fun n14 => aP p9 fun m15 m16 => oB (natIdx n14 m10) fun m17 => oB (AW.wr h13 m15 (m16 + m17 * 5 + 1) (Value.int IntKind.i64 4)) fun h18
  => oB (AW.rd h13 m6 m7) fun v19 => vSl v19 fun p20 m21 m22 => Value.slice p20 m21 m22 = Value.slice p9 m10 m11 ∧ EvQ P f_p_brickyardref20_Sched_leave [Value.pointer p1, Value.string s2] h18 fun v23 h24 =>
  unitAt P f_p_brickyardref20_Sched_Done 6 [0, 1] [Value.pointer p1, Value.string s2] h24 Q)) (aP p1 fun m25 m26 => oB (AW.rd h4 m25 m26) fun v27 => vSl v27 fun p28 m29 m30 => EvQ P f_p_brickyardref20_Sched_find [Value.pointer p1,
  Value.string s2] h4 fun v31 h32 => vInt IntKind.i64 v31 fun n33 => aP p28 fun m34 m35 => oB (natIdx n33 m29) fun m36 => oB (AW.wr h32 m34 (m35 + m36 * 5 + 1) (Value.int
  IntKind.i64 4)) fun h37 => oB (AW.rd h32 m25 m26) fun v38 => vSl v38 fun p39 m40 m41 => Value.slice p39 m40 m41 = Value.slice p28 m29 m30 ∧ EvQ P f_p_brickyardref20_Sched_leave [Value.pointer p1,
  Value.string s2] h37 fun v42 h43 => unitAt P f_p_brickyardref20_Sched_Done 6 [0, 1] [Value.pointer p1, Value.string s2] h43 Q)) : EvQ P f_p_brickyardref20_Sched_Done [Value.pointer p1, Value.string s2] h Q := fn_ok (n := 400)
  (ann := annOf [(6, [0, 1]), (8, [0, 1, 6, 7])]) (Eq.mp (by kernel_rfl) H)
theorem r_p_brickyardref20_Sched_Done_6 {p1 : Option Addr} {s2 : ByteArray} {h : AW} {Q : Value → AW → Prop} (H : unitAt P f_p_brickyardref20_Sched_Done 8 [0, 1, 6, 7] [Value.pointer p1, Value.string s2, Value.int IntKind.i64
  (Int.negSucc 0), Value.int IntKind.i64 0] h Q) : unitAt P f_p_brickyardref20_Sched_Done 6 [0, 1] [Value.pointer p1, Value.string s2] h Q := unit_ok (n := 400) (ann := annOf [(6, [0, 1]), (8, [0, 1, 6,
  7])]) (Eq.mp (by kernel_rfl) H)
theorem r_p_brickyardref20_Sched_Done_8 {p1 : Option Addr} {s2 : ByteArray} {n3 : Int} {n4 : Int} {h : AW} {Q : Value → AW → Prop} (H : aP p1 fun m5 m6 => oB (AW.rd h m5 m6) fun v7 => vSl v7 fun p8 m9
  m10 => bC (decide (n4 < (↑m9 : Int))) (aP p1 fun m11 m12 => oB (AW.rd h m11 m12) fun v13 => vSl v13 fun p14 m15 m16 => aP p14 fun m17 m18 => oB (natIdx n4 m15) fun m19 => oB
  (AW.rd h m17 (m18 + m19 * 5)) fun v20 => vStr v20 fun s21 => oB (AW.rd h m17 (m18 + m19 * 5 + 1)) fun v22 => vInt IntKind.i64 v22 fun n23 => oB (AW.rd h m17 (m18 + m19 * 5 + 1 +
  1)) fun v24 => vStr v24 fun s25 => oB (AW.rd h m17 (m18 + m19 * 5 + 1 + 1 + 1)) fun v26 => vInt IntKind.i64 v26 fun n27 => oB (AW.rd h m17 (m18 + m19 * 5 + 1 + 1 + 1 + 1)) fun
  v28 => vInt IntKind.i64 v28 fun n29 => oB (AW.wrL (AW.addVar h [Value.string (ByteArray.mk #[]), Value.int IntKind.i64 0, Value.string (ByteArray.mk #[]), Value.int IntKind.i64
  0, Value.int IntKind.i64 0]) (AW.next h) 0 [Value.string s21, Value.int IntKind.i64 n23, Value.string s25, Value.int IntKind.i64 n27, Value.int IntKind.i64 n29]) fun h30 => oB
  (AW.rd h30 (AW.next h) 1) fun v31 => vInt IntKind.i64 v31 fun n32 => bC (n32 == 3) (oB (AW.rd h30 (AW.next h) 2) fun v33 => vStr v33 fun s34 => bC (bEq s34 s2) (bC (decide (n3 <
  0)) (unitAt P f_p_brickyardref20_Sched_Done 8 [0, 1, 6, 7] [Value.pointer p1, Value.string s2, Value.int IntKind.i64 n4, Value.int IntKind.i64 (IntKind.wrap IntKind.i64 (n4 + 1))] h30 Q) (oB (AW.rd h30
  (AW.next h) 3) fun v35 => vInt IntKind.i64 v35 fun n36 => aP p1 fun m37 m38 => oB (AW.rd h30 m37 m38) fun v39 => vSl v39 fun p40 m41 m42 => aP p40 fun m43 m44 => oB (natIdx n3
  m41) fun m45 => oB (AW.rd h30 m43 (m44 + m45 * 5 + 3)) fun v46 => vInt IntKind.i64 v46 fun n47 => bC (decide (n36 < n47)) (unitAt P f_p_brickyardref20_Sched_Done 8 [0, 1, 6, 7] [Value.pointer p1,
  Value.string s2, Value.int IntKind.i64 n4, Value.int IntKind.i64 (IntKind.wrap IntKind.i64 (n4 + 1))] h30 Q) (unitAt P f_p_brickyardref20_Sched_Done 8 [0, 1, 6, 7] [Value.pointer p1, Value.string s2,
  Value.int IntKind.i64 n3, Value.int IntKind.i64 (IntKind.wrap IntKind.i64 (n4 + 1))] h30 Q))) (unitAt P f_p_brickyardref20_Sched_Done 8 [0, 1, 6, 7] [Value.pointer p1, Value.string s2, Value.int
  IntKind.i64 n3, Value.int IntKind.i64 (IntKind.wrap IntKind.i64 (n4 + 1))] h30 Q)) (unitAt P f_p_brickyardref20_Sched_Done 8 [0, 1, 6, 7] [Value.pointer p1, Value.string s2, Value.int IntKind.i64 n3,
  Value.int IntKind.i64 (IntKind.wrap IntKind.i64 (n4 + 1))] h30 Q)) (bC (decide (n3 < 0)) (Q (Value.int IntKind.i64 0) h) (aP p1 fun m48 m49 => oB (AW.rd h m48 m49) fun v50 => vSl
  v50 fun p51 m52 m53 => aP p51 fun m54 m55 => oB (natIdx n3 m52) fun m56 => oB (AW.wr h m54 (m55 + m56 * 5 + 1) (Value.int IntKind.i64 1)) fun h57 => aP p1 fun m58 m59 => oB
  (AW.rd h57 m58 (m59 + 2)) fun v60 => vSl v60 fun p61 m62 m63 => aP p1 fun m64 m65 => oB (AW.rd h57 m64 m65) fun v66 => vSl v66 fun p67 m68 m69 => aP p67 fun m70 m71 => oB (natIdx
  n3 m68) fun m72 => oB (AW.rd h57 m70 (m71 + m72 * 5)) fun v73 => vStr v73 fun s74 => oP (appendB P (AW.addVar h57 [Value.string s74]) (Array.mk [ty_sl_string, ty_sl_string]) [Value.slice p61
  m62 m63, Value.slice (some (Addr.mk (AW.next h57) 0 none)) 1 1]) fun v75 h76 => vSl v75 fun p77 m78 m79 => aP p1 fun m80 m81 => oB (AW.wr h76 m80 (m81 + 2) (Value.slice p77 m78
  m79)) fun h82 => oB (AW.rd (AW.addVar h57 [Value.string s74]) m58 (m59 + 2)) fun v83 => vSl v83 fun p84 m85 m86 => Value.slice p84 m85 m86 = Value.slice p61 m62 m63 ∧ unitAt P
  f_p_brickyardref20_Sched_Done 6 [0, 1] [Value.pointer p1, Value.string s2] h82 Q))) : unitAt P f_p_brickyardref20_Sched_Done 8 [0, 1, 6, 7] [Value.pointer p1, Value.string s2, Value.int IntKind.i64 n3, Value.int IntKind.i64 n4]
  h Q := unit_ok (n := 400) (ann := annOf [(6, [0, 1]), (8, [0, 1, 6, 7])]) (Eq.mp (by kernel_rfl) H)
theorem r_p_brickyardref20_Sched_find {p1 : Option Addr} {s2 : ByteArray} {h : AW} {Q : Value → AW → Prop} (H : unitAt P f_p_brickyardref20_Sched_find 2 [0, 1, 5] [Value.pointer p1, Value.string s2, Value.int IntKind.i64 0] h Q)
  : EvQ P f_p_brickyardref20_Sched_find [Value.pointer p1, Value.string s2] h Q := fn_ok (n := 400) (ann := annOf [(2, [0, 1, 5])]) (Eq.mp (by kernel_rfl) H)
theorem r_p_brickyardref20_Sched_find_2 {p1 : Option Addr} {s2 : ByteArray} {n3 : Int} {h : AW} {Q : Value → AW → Prop} (H : aP p1 fun m4 m5 => oB (AW.rd h m4 m5) fun v6 => vSl v6 fun p7 m8 m9 => bC
  (decide (n3 < (↑m8 : Int))) (aP p1 fun m10 m11 => oB (AW.rd h m10 m11) fun v12 => vSl v12 fun p13 m14 m15 => aP p13 fun m16 m17 => oB (natIdx n3 m14) fun m18 => oB (AW.rd h m16
  (m17 + m18 * 5)) fun v19 => vStr v19 fun s20 => bC (bEq s20 s2) (Q (Value.int IntKind.i64 n3) h) (unitAt P f_p_brickyardref20_Sched_find 2 [0, 1, 5] [Value.pointer p1, Value.string s2, Value.int
  IntKind.i64 (IntKind.wrap IntKind.i64 (n3 + 1))] h Q)) (Q (Value.int IntKind.i64 (Int.negSucc 0)) h)) : unitAt P f_p_brickyardref20_Sched_find 2 [0, 1, 5] [Value.pointer p1, Value.string s2, Value.int
  IntKind.i64 n3] h Q := unit_ok (n := 400) (ann := annOf [(2, [0, 1, 5])]) (Eq.mp (by kernel_rfl) H)
theorem r_p_brickyardref20_Sched_State {p1 : Option Addr} {s2 : ByteArray} {h : AW} {Q : Value → AW → Prop} (H : EvQ P f_p_brickyardref20_Sched_find [Value.pointer p1, Value.string s2] h fun v3 h4 => vInt IntKind.i64 v3 fun n5 =>
  bC (decide (n5 < 0)) (Q (Value.int IntKind.i64 0) h4) (aP p1 fun m6 m7 => oB (AW.rd h4 m6 m7) fun v8 => vSl v8 fun p9 m10 m11 => aP p9 fun m12 m13 => oB (natIdx n5 m10) fun m14
  => oB (AW.rd h4 m12 (m13 + m14 * 5 + 1)) fun v15 => vInt IntKind.i64 v15 fun n16 => Q (Value.int IntKind.i64 n16) h4)) : EvQ P f_p_brickyardref20_Sched_State [Value.pointer p1, Value.string s2] h Q :=
  fn_ok (n := 400) (ann := annOf []) (Eq.mp (by kernel_rfl) H)
theorem r_p_brickyardref20_Sched_leave {p1 : Option Addr} {s2 : ByteArray} {h : AW} {Q : Value → AW → Prop} (H : unitAt P f_p_brickyardref20_Sched_leave 1 [0, 1, 4] [Value.pointer p1, Value.string s2, Value.int IntKind.i64 0] h Q)
  : EvQ P f_p_brickyardref20_Sched_leave [Value.pointer p1, Value.string s2] h Q := fn_ok (n := 400) (ann := annOf [(1, [0, 1, 4])]) (Eq.mp (by kernel_rfl) H)
theorem r_p_brickyardref20_Sched_leave_1 {p1 : Option Addr} {s2 : ByteArray} {n3 : Int} {h : AW} {Q : Value → AW → Prop} (H : aP p1 fun m4 m5 => oB (AW.rd h m4 (m5 + 1)) fun v6 => vSl v6 fun p7 m8 m9 =>
  bC (decide (n3 < (↑m8 : Int))) (aP p1 fun m10 m11 => oB (AW.rd h m10 (m11 + 1)) fun v12 => vSl v12 fun p13 m14 m15 => aP p13 fun m16 m17 => oB (natIdx n3 m14) fun m18 => oB
  (AW.rd h m16 (m17 + m18 * 1)) fun v19 => vStr v19 fun s20 => bC (bEq s20 s2) (aP p1 fun m21 m22 => oB (AW.rd h m21 (m22 + 1)) fun v23 => vSl v23 fun p24 m25 m26 => aP p24 fun m27
  m28 => oB (natIdx n3 m25) fun m29 => oB (AW.wr h m27 (m28 + m29 * 1) (Value.string (ByteArray.mk #[]))) fun h30 => unitAt P f_p_brickyardref20_Sched_leave 1 [0, 1, 4] [Value.pointer p1, Value.string s2,
  Value.int IntKind.i64 (IntKind.wrap IntKind.i64 (n3 + 1))] h30 Q) (unitAt P f_p_brickyardref20_Sched_leave 1 [0, 1, 4] [Value.pointer p1, Value.string s2, Value.int IntKind.i64 (IntKind.wrap IntKind.i64
  (n3 + 1))] h Q)) (Q (Value.tuple (Array.mk [])) h)) : unitAt P f_p_brickyardref20_Sched_leave 1 [0, 1, 4] [Value.pointer p1, Value.string s2, Value.int IntKind.i64 n3] h Q := unit_ok (n := 400) (ann :=
  annOf [(1, [0, 1, 4])]) (Eq.mp (by kernel_rfl) H)
theorem r_p_brickyardref20_Sched_Circle {p1 : Option Addr} {s2 : ByteArray} {h : AW} {Q : Value → AW → Prop} (H : unitAt P f_p_brickyardref20_Sched_Circle 4 [0, 1, 5, 6, 7] [Value.pointer p1, Value.string s2, Value.slice none 0 0,
  Value.string s2, Value.int IntKind.i64 0] h Q) : EvQ P f_p_brickyardref20_Sched_Circle [Value.pointer p1, Value.string s2] h Q := fn_ok (n := 400) (ann := annOf [(4, [0, 1, 5, 6, 7]), (14, [5, 9, 10])])
  (Eq.mp (by kernel_rfl) H)
theorem r_p_brickyardref20_Sched_Circle_4 {p1 : Option Addr} {s2 : ByteArray} {p3 : Option Addr} {m4 : Nat} {m5 : Nat} {s6 : ByteArray} {n7 : Int} {h : AW} {Q : Value → AW → Prop} (H : aP p1 fun m8 m9 =>
  oB (AW.rd h m8 m9) fun v10 => vSl v10 fun p11 m12 m13 => bC (decide (n7 ≤ (↑m12 : Int))) (EvQ P f_p_brickyardref20_Sched_find [Value.pointer p1, Value.string s6] h fun v14 h15 => vInt IntKind.i64 v14 fun
  n16 => bC (decide (n16 < 0)) (Q (Value.slice none 0 0) h15) (aP p1 fun m17 m18 => oB (AW.rd h15 m17 m18) fun v19 => vSl v19 fun p20 m21 m22 => aP p20 fun m23 m24 => oB (natIdx
  n16 m21) fun m25 => oB (AW.rd h15 m23 (m24 + m25 * 5 + 1)) fun v26 => vInt IntKind.i64 v26 fun n27 => bC (n27 != 3) (Q (Value.slice none 0 0) h15) (oP (appendB P (AW.addVar h15
  [Value.string s6]) (Array.mk [ty_sl_string, ty_sl_string]) [Value.slice p3 m4 m5, Value.slice (some (Addr.mk (AW.next h15) 0 none)) 1 1]) fun v28 h29 => vSl v28 fun p30 m31 m32 => aP p1 fun
  m33 m34 => oB (AW.rd h29 m33 m34) fun v35 => vSl v35 fun p36 m37 m38 => aP p36 fun m39 m40 => oB (natIdx n16 m37) fun m41 => oB (AW.rd h29 m39 (m40 + m41 * 5 + 2)) fun v42 =>
  vStr v42 fun s43 => bC (bEq s43 s2) (unitAt P f_p_brickyardref20_Sched_Circle 14 [5, 9, 10] [Value.slice p30 m31 m32, Value.int IntKind.i64 0, Value.int IntKind.i64 1] h29 Q) (unitAt P f_p_brickyardref20_Sched_Circle 4 [0, 1, 5, 6,
  7] [Value.pointer p1, Value.string s2, Value.slice p30 m31 m32, Value.string s43, Value.int IntKind.i64 (IntKind.wrap IntKind.i64 (n7 + 1))] h29 Q)))) (Q (Value.slice none 0 0)
  h)) : unitAt P f_p_brickyardref20_Sched_Circle 4 [0, 1, 5, 6, 7] [Value.pointer p1, Value.string s2, Value.slice p3 m4 m5, Value.string s6, Value.int IntKind.i64 n7] h Q := unit_ok (n := 400) (ann := annOf
  [(4, [0, 1, 5, 6, 7]), (14, [5, 9, 10])]) (Eq.mp (by kernel_rfl) H)
theorem r_p_brickyardref20_Sched_Circle_14 {p1 : Option Addr} {m2 : Nat} {m3 : Nat} {n4 : Int} {n5 : Int} {h : AW} {Q : Value → AW → Prop} (H : bC (decide (n5 < (↑m2 : Int))) (aP p1 fun m6 m7 => oB (natIdx
  n5 m2) fun m8 => oB (AW.rd h m6 (m7 + m8 * 1)) fun v9 => vStr v9 fun s10 => aP p1 fun m11 m12 => oB (natIdx n4 m2) fun m13 => oB (AW.rd h m11 (m12 + m13 * 1)) fun v14 => vStr v14
  fun s15 => bC (Op.bytesLess (Array.toList (ByteArray.data s10)) (Array.toList (ByteArray.data s15))) (unitAt P f_p_brickyardref20_Sched_Circle 14 [5, 9, 10] [Value.slice p1 m2 m3, Value.int IntKind.i64 n5,
  Value.int IntKind.i64 (IntKind.wrap IntKind.i64 (n5 + 1))] h Q) (unitAt P f_p_brickyardref20_Sched_Circle 14 [5, 9, 10] [Value.slice p1 m2 m3, Value.int IntKind.i64 n4, Value.int IntKind.i64 (IntKind.wrap
  IntKind.i64 (n5 + 1))] h Q)) (oB (natBnd n4 m2) fun m16 => bC (Nat.ble m2 m3) (oB (shO p1 (m16 * 1)) fun p17 => oP (appendB P (AW.addVar h []) (Array.mk [ty_sl_string, ty_sl_string])
  [Value.slice (some (Addr.mk (AW.next h) 0 none)) 0 0, Value.slice p17 (m2 - m16) (m3 - m16)]) fun v18 h19 => vSl v18 fun p20 m21 m22 => oB (natBnd n4 m3) fun m23 => bC (Nat.ble
  m23 m3) (oB (shO p1 0) fun p24 => oP (appendB P h19 (Array.mk [ty_sl_string, ty_sl_string]) [Value.slice p20 m21 m22, Value.slice p24 (m23 - 0) (m3 - 0)]) fun v25 h26 => vSl v25 fun p27 m28
  m29 => oB (natBnd n4 m2) fun m30 => bC (Nat.ble m2 m3) (oB (shO p1 (m30 * 1)) fun p31 => Value.slice p31 (m2 - m30) (m3 - m30) = Value.slice p17 (m2 - m16) (m3 - m16) ∧ oB
  (natBnd n4 m3) fun m32 => bC (Nat.ble m32 m3) (oB (shO p1 0) fun p33 => Value.slice p33 (m32 - 0) (m3 - 0) = Value.slice p24 (m23 - 0) (m3 - 0) ∧ oB (natBnd n4 m3) fun m34 => bC
  (Nat.ble m34 m3) (oB (shO p1 0) fun p35 => Value.slice p35 (m34 - 0) (m3 - 0) = Value.slice p24 (m23 - 0) (m3 - 0) ∧ Q (Value.slice p27 m28 m29) h26) False) False) False) False)
  False)) : unitAt P f_p_brickyardref20_Sched_Circle 14 [5, 9, 10] [Value.slice p1 m2 m3, Value.int IntKind.i64 n4, Value.int IntKind.i64 n5] h Q := unit_ok (n := 400) (ann := annOf [(4, [0, 1, 5, 6, 7]),
  (14, [5, 9, 10])]) (Eq.mp (by kernel_rfl) H)
theorem r_p_brickyardref20_Sched_Starts {p1 : Option Addr} {s2 : ByteArray} {h : AW} {Q : Value → AW → Prop} (H : EvQ P f_p_brickyardref20_Sched_find [Value.pointer p1, Value.string s2] h fun v3 h4 => vInt IntKind.i64 v3 fun n5 =>
  bC (decide (n5 < 0)) (Q (Value.int IntKind.i64 0) h4) (aP p1 fun m6 m7 => oB (AW.rd h4 m6 m7) fun v8 => vSl v8 fun p9 m10 m11 => aP p9 fun m12 m13 => oB (natIdx n5 m10) fun m14
  => oB (AW.rd h4 m12 (m13 + m14 * 5 + 4)) fun v15 => vInt IntKind.i64 v15 fun n16 => Q (Value.int IntKind.i64 n16) h4)) : EvQ P f_p_brickyardref20_Sched_Starts [Value.pointer p1, Value.string s2] h Q :=
  fn_ok (n := 400) (ann := annOf []) (Eq.mp (by kernel_rfl) H)
theorem r_p_brickyardref20_Sched_Some {p1 : Option Addr} {n2 : Int} {h : AW} {Q : Value → AW → Prop} (H : unitAt P f_p_brickyardref20_Sched_Some 2 [0, 1, 5] [Value.pointer p1, Value.int IntKind.i64 n2, Value.int IntKind.i64 0] h
  Q) : EvQ P f_p_brickyardref20_Sched_Some [Value.pointer p1, Value.int IntKind.i64 n2] h Q := fn_ok (n := 400) (ann := annOf [(2, [0, 1, 5])]) (Eq.mp (by kernel_rfl) H)
theorem r_p_brickyardref20_Sched_Some_2 {p1 : Option Addr} {n2 : Int} {n3 : Int} {h : AW} {Q : Value → AW → Prop} (H : aP p1 fun m4 m5 => oB (AW.rd h m4 m5) fun v6 => vSl v6 fun p7 m8 m9 => bC (decide
  (n3 < (↑m8 : Int))) (aP p1 fun m10 m11 => oB (AW.rd h m10 m11) fun v12 => vSl v12 fun p13 m14 m15 => aP p13 fun m16 m17 => oB (natIdx n3 m14) fun m18 => oB (AW.rd h m16 (m17 +
  m18 * 5 + 1)) fun v19 => vInt IntKind.i64 v19 fun n20 => bC (n20 == n2) (Q (Value.bool true) h) (unitAt P f_p_brickyardref20_Sched_Some 2 [0, 1, 5] [Value.pointer p1, Value.int IntKind.i64 n2, Value.int
  IntKind.i64 (IntKind.wrap IntKind.i64 (n3 + 1))] h Q)) (Q (Value.bool false) h)) : unitAt P f_p_brickyardref20_Sched_Some 2 [0, 1, 5] [Value.pointer p1, Value.int IntKind.i64 n2, Value.int IntKind.i64
  n3] h Q := unit_ok (n := 400) (ann := annOf [(2, [0, 1, 5])]) (Eq.mp (by kernel_rfl) H)
end Go.Proofs.Ytgdkekdedgkglaa
end

section
/- The document's scheduler: what its functions come to. -/
namespace Go.Proofs.Ytgdkekdedgkglaa
open Go.Abs Go.Abs.Sch
set_option maxRecDepth 100000
attribute [local irreducible] unitAt EvQ
variable {h : AW} {μ : Paint} {ρ : Store} {Q : Value → AW → Prop}

def tkCells (t : Tk) : List Value := [.string t.key, .int .i64 t.st, .string t.on, .int .i64 t.since, .int .i64 t.starts]
theorem tk_len (t : Tk) : (tkCells t).length = 5 := rfl
abbrev tcs (l : List Tk) : List Value := l.flatMap tkCells

/-- Names and places of the document's scheduler. -/
structure RN where
  ns : List Nat
  r : Nat
  ta : Option Addr
  tc : Nat
  sa : Option Addr
  sc : Nat
  qa : Option Addr
  qc : Nat
def RN.head (N : RN) (m : M) : List Value := [.slice N.ta m.tasks.length N.tc, .slice N.sa m.slots.length N.sc, .slice N.qa m.queue.length N.qc, .int .i64 m.clock]
abbrev RN.rs (N : RN) (m : M) : List Res := [.var N.r (N.head m), .sl N.ta N.tc 5 (tcs m.tasks), .sl N.sa N.sc 1 (strs m.slots), .sl N.qa N.qc 1 (strs m.queue)]
abbrev RefAt (ρ : Store) (N : RN) (m : M) : Prop := Pcs ρ ρ N.ns (N.rs m)

theorem find_loop {N : RN} {m : M} {k : Str} (O : Own h μ ρ) (R : RefAt ρ N m) (hl : m.tasks.length < big) (hq : Q (.int .i64 (tixI m.tasks k)) h) :
    ∀ (n j : Nat), m.tasks.length - j = n → (∀ i t, i < j → m.tasks[i]? = some t → t.key ≠ k) → unitAt P f_p_brickyardref20_Sched_find 2 [0, 1, 5] [.pointer (some ⟨N.r, 0, none⟩), .string k, .int .i64 (j : Int)] h Q := by
  intro n
  induction n with
  | zero =>
    intro j hn hs
    refine r_p_brickyardref20_Sched_find_2 ?_
    simp only [oB_some, bC_true, bC_false, vInt_int, vBool_bool, vStr_string, vPtr_pointer, vSl_slice, vMap_map, vFun_func, vAgg_agg, vTup_tuple, lC_cons, lN_nil, aP_some, shO_none, shO_some, Option.isNone_none, Option.isNone_some, Bool.not_true, Bool.not_false]
    refine w_rd O R 0 (j := 0) rfl rfl ?_
    simp only [oB_some, bC_true, bC_false, vInt_int, vBool_bool, vStr_string, vPtr_pointer, vSl_slice, vMap_map, vFun_func, vAgg_agg, vTup_tuple, lC_cons, lN_nil, aP_some, shO_none, shO_some, Option.isNone_none, Option.isNone_some, Bool.not_true, Bool.not_false]
    rw [geI (by omega)]
    simp only [oB_some, bC_true, bC_false, vInt_int, vBool_bool, vStr_string, vPtr_pointer, vSl_slice, vMap_map, vFun_func, vAgg_agg, vTup_tuple, lC_cons, lN_nil, aP_some, shO_none, shO_some, Option.isNone_none, Option.isNone_some, Bool.not_true, Bool.not_false]
    rcases tix_cases m.tasks k with ⟨h1, _⟩ | ⟨i, t, _, h2, _, h4, h5, _⟩
    · unfold tixI at hq; rw [h1] at hq; exact hq
    · exact absurd h4 (hs i t (by omega) h2)
  | succ n ih =>
    intro j hn hs
    have hlt : j < m.tasks.length := by omega
    refine r_p_brickyardref20_Sched_find_2 ?_
    simp only [oB_some, bC_true, bC_false, vInt_int, vBool_bool, vStr_string, vPtr_pointer, vSl_slice, vMap_map, vFun_func, vAgg_agg, vTup_tuple, lC_cons, lN_nil, aP_some, shO_none, shO_some, Option.isNone_none, Option.isNone_some, Bool.not_true, Bool.not_false]
    refine w_rd O R 0 (j := 0) rfl rfl ?_
    simp only [oB_some, bC_true, bC_false, vInt_int, vBool_bool, vStr_string, vPtr_pointer, vSl_slice, vMap_map, vFun_func, vAgg_agg, vTup_tuple, lC_cons, lN_nil, aP_some, shO_none, shO_some, Option.isNone_none, Option.isNone_some, Bool.not_true, Bool.not_false]
    rw [ltI hlt]
    simp only [oB_some, bC_true, bC_false, vInt_int, vBool_bool, vStr_string, vPtr_pointer, vSl_slice, vMap_map, vFun_func, vAgg_agg, vTup_tuple, lC_cons, lN_nil, aP_some, shO_none, shO_some, Option.isNone_none, Option.isNone_some, Bool.not_true, Bool.not_false]
    refine w_rd O R 0 (j := 0) rfl rfl ?_
    simp only [oB_some, bC_true, bC_false, vInt_int, vBool_bool, vStr_string, vPtr_pointer, vSl_slice, vMap_map, vFun_func, vAgg_agg, vTup_tuple, lC_cons, lN_nil, aP_some, shO_none, shO_some, Option.isNone_none, Option.isNone_some, Bool.not_true, Bool.not_false]
    refine (w_sl O R 1 rfl).ix (sz := 5) rfl (flat_len tk_len _) (by omega) hlt fun i off ea hr => ?_
    have := hr 0 (by omega)
    rw [flat_get tk_len (by omega), List.getElem?_eq_getElem hlt] at this
    rw [show off + j * 5 = off + j * 5 + 0 from rfl, this]
    simp only [Option.bind_some, tkCells, List.getElem?_cons_zero, oB_some, bC_true, bC_false, vInt_int, vBool_bool, vStr_string, vPtr_pointer, vSl_slice, vMap_map, vFun_func, vAgg_agg, vTup_tuple, lC_cons, lN_nil, aP_some, shO_none, shO_some, Option.isNone_none, Option.isNone_some, Bool.not_true, Bool.not_false]
    refine bC_iff (fun e => ?_) (fun e => ?_)
    · have e := bEq_iff.1 e
      rcases tix_cases m.tasks k with ⟨_, _, h3⟩ | ⟨i', t, h1, h2, _, h4, h5, h6⟩
      · exact absurd e (h3 _ (List.getElem_mem hlt))
      · have : i' = j := by
          rcases Nat.lt_trichotomy i' j with x | x | x
          · exact absurd h4 (hs i' t x h2)
          · exact x
          · exact absurd e (h6 j _ x (List.getElem?_eq_getElem hlt))
        subst this
        unfold tixI at hq; rw [h1] at hq; exact hq
    · rw [wrapS (by simp [big] at hl; omega)]
      refine ih (j + 1) (by omega) fun i' t hi ht => ?_
      rcases Nat.lt_or_ge i' j with x | x
      · exact hs i' t x ht
      · have : i' = j := by omega
        subst this
        rw [List.getElem?_eq_getElem hlt] at ht; cases ht
        exact bEq_false.1 e
theorem find_ok {N : RN} {m : M} {k : Str} (O : Own h μ ρ) (R : RefAt ρ N m) (hl : m.tasks.length < big) (hq : Q (.int .i64 (tixI m.tasks k)) h) : EvQ P f_p_brickyardref20_Sched_find [.pointer (some ⟨N.r, 0, none⟩), .string k] h Q :=
  r_p_brickyardref20_Sched_find (find_loop O R hl hq _ 0 rfl fun i t hi => by omega)

/-- A task's cells. -/
theorem tk_ix {N : RN} {m : M} (O : Own h μ ρ) (R : RefAt ρ N m) {z : Int} {j n : Nat} {t : Tk} (hz : z = j) (hn : n = m.tasks.length) (ht : m.tasks[j]? = some t) {f : Nat → Nat → Nat → Prop}
    (H : ∀ i off, (∀ k, k < 5 → h.rd i (off + j * 5 + k) = (tkCells t)[k]?) → f i off j) : aP N.ta fun i off => oB (natIdx z n) fun j => f i off j := by
  subst hn
  have hlt : j < m.tasks.length := (List.getElem?_eq_some_iff.1 ht).1
  refine (w_sl O R 1 rfl).ix (sz := 5) hz (flat_len tk_len _) (by omega) hlt fun i off ea hr => H i off fun k hk => ?_
  rw [hr k hk, flat_get tk_len hk, ht]; rfl
theorem state_ok {N : RN} {m : M} {k : Str} (O : Own h μ ρ) (R : RefAt ρ N m) (hl : m.tasks.length < big) (hq : Q (.int .i64 (stOf m.tasks k : Nat)) h) : EvQ P f_p_brickyardref20_Sched_State [.pointer (some ⟨N.r, 0, none⟩), .string k] h Q := by
  refine r_p_brickyardref20_Sched_State (find_ok O R hl ?_)
  simp only [oB_some, bC_true, bC_false, vInt_int, vBool_bool, vStr_string, vPtr_pointer, vSl_slice, vMap_map, vFun_func, vAgg_agg, vTup_tuple, lC_cons, lN_nil, aP_some, shO_none, shO_some, Option.isNone_none, Option.isNone_some, Bool.not_true, Bool.not_false]
  unfold tixI stOf at *
  rcases tix_cases m.tasks k with ⟨h1, h2, _⟩ | ⟨j, t, h1, h2, h3, _, _, _⟩
  · rw [h2] at hq; rw [h1]; exact hq
  · rw [h3] at hq; rw [h1]
    simp only [show decide ((j : Int) < 0) = false from by simp, oB_some, bC_true, bC_false, vInt_int, vBool_bool, vStr_string, vPtr_pointer, vSl_slice, vMap_map, vFun_func, vAgg_agg, vTup_tuple, lC_cons, lN_nil, aP_some, shO_none, shO_some, Option.isNone_none, Option.isNone_some, Bool.not_true, Bool.not_false]
    refine w_rd O R 0 (j := 0) rfl rfl ?_
    simp only [oB_some, bC_true, bC_false, vInt_int, vBool_bool, vStr_string, vPtr_pointer, vSl_slice, vMap_map, vFun_func, vAgg_agg, vTup_tuple, lC_cons, lN_nil, aP_some, shO_none, shO_some, Option.isNone_none, Option.isNone_some, Bool.not_true, Bool.not_false]
    refine tk_ix O R rfl rfl h2 fun i off hr => ?_
    rw [hr 1 (by omega)]
    exact hq
theorem starts_ok {N : RN} {m : M} {k : Str} (O : Own h μ ρ) (R : RefAt ρ N m) (hl : m.tasks.length < big) (hq : Q (.int .i64 (startsOf m.tasks k : Nat)) h) : EvQ P f_p_brickyardref20_Sched_Starts [.pointer (some ⟨N.r, 0, none⟩), .string k] h Q := by
  refine r_p_brickyardref20_Sched_Starts (find_ok O R hl ?_)
  simp only [oB_some, bC_true, bC_false, vInt_int, vBool_bool, vStr_string, vPtr_pointer, vSl_slice, vMap_map, vFun_func, vAgg_agg, vTup_tuple, lC_cons, lN_nil, aP_some, shO_none, shO_some, Option.isNone_none, Option.isNone_some, Bool.not_true, Bool.not_false]
  unfold tixI startsOf at *
  rcases tix_cases m.tasks k with ⟨h1, h2, _⟩ | ⟨j, t, h1, h2, h3, _, _, _⟩
  · rw [h2] at hq; rw [h1]; exact hq
  · rw [h3] at hq; rw [h1]
    simp only [show decide ((j : Int) < 0) = false from by simp, oB_some, bC_true, bC_false, vInt_int, vBool_bool, vStr_string, vPtr_pointer, vSl_slice, vMap_map, vFun_func, vAgg_agg, vTup_tuple, lC_cons, lN_nil, aP_some, shO_none, shO_some, Option.isNone_none, Option.isNone_some, Bool.not_true, Bool.not_false]
    refine w_rd O R 0 (j := 0) rfl rfl ?_
    simp only [oB_some, bC_true, bC_false, vInt_int, vBool_bool, vStr_string, vPtr_pointer, vSl_slice, vMap_map, vFun_func, vAgg_agg, vTup_tuple, lC_cons, lN_nil, aP_some, shO_none, shO_some, Option.isNone_none, Option.isNone_some, Bool.not_true, Bool.not_false]
    refine tk_ix O R rfl rfl h2 fun i off hr => ?_
    rw [hr 4 (by omega)]
    exact hq
theorem some_loop {N : RN} {m : M} {s : Nat} (O : Own h μ ρ) (R : RefAt ρ N m) (hl : m.tasks.length < big) (hq : Q (.bool (m.tasks.any fun t => t.st == s)) h) :
    ∀ (n j : Nat), m.tasks.length - j = n → (∀ i t, i < j → m.tasks[i]? = some t → t.st ≠ s) → unitAt P f_p_brickyardref20_Sched_Some 2 [0, 1, 5] [.pointer (some ⟨N.r, 0, none⟩), .int .i64 (s : Int), .int .i64 (j : Int)] h Q := by
  intro n
  induction n with
  | zero =>
    intro j hn hs
    refine r_p_brickyardref20_Sched_Some_2 ?_
    simp only [oB_some, bC_true, bC_false, vInt_int, vBool_bool, vStr_string, vPtr_pointer, vSl_slice, vMap_map, vFun_func, vAgg_agg, vTup_tuple, lC_cons, lN_nil, aP_some, shO_none, shO_some, Option.isNone_none, Option.isNone_some, Bool.not_true, Bool.not_false]
    refine w_rd O R 0 (j := 0) rfl rfl ?_
    simp only [oB_some, bC_true, bC_false, vInt_int, vBool_bool, vStr_string, vPtr_pointer, vSl_slice, vMap_map, vFun_func, vAgg_agg, vTup_tuple, lC_cons, lN_nil, aP_some, shO_none, shO_some, Option.isNone_none, Option.isNone_some, Bool.not_true, Bool.not_false]
    rw [geI (by omega)]
    simp only [oB_some, bC_true, bC_false, vInt_int, vBool_bool, vStr_string, vPtr_pointer, vSl_slice, vMap_map, vFun_func, vAgg_agg, vTup_tuple, lC_cons, lN_nil, aP_some, shO_none, shO_some, Option.isNone_none, Option.isNone_some, Bool.not_true, Bool.not_false]
    have : (m.tasks.any fun t => t.st == s) = false := by
      rw [List.any_eq_false]
      intro t ht
      obtain ⟨i, hi, e⟩ := List.getElem_of_mem ht
      simpa using hs i t (by omega) (by rw [List.getElem?_eq_getElem hi, e])
    rw [this] at hq; exact hq
  | succ n ih =>
    intro j hn hs
    have hlt : j < m.tasks.length := by omega
    refine r_p_brickyardref20_Sched_Some_2 ?_
    simp only [oB_some, bC_true, bC_false, vInt_int, vBool_bool, vStr_string, vPtr_pointer, vSl_slice, vMap_map, vFun_func, vAgg_agg, vTup_tuple, lC_cons, lN_nil, aP_some, shO_none, shO_some, Option.isNone_none, Option.isNone_some, Bool.not_true, Bool.not_false]
    refine w_rd O R 0 (j := 0) rfl rfl ?_
    simp only [oB_some, bC_true, bC_false, vInt_int, vBool_bool, vStr_string, vPtr_pointer, vSl_slice, vMap_map, vFun_func, vAgg_agg, vTup_tuple, lC_cons, lN_nil, aP_some, shO_none, shO_some, Option.isNone_none, Option.isNone_some, Bool.not_true, Bool.not_false]
    rw [ltI hlt]
    simp only [oB_some, bC_true, bC_false, vInt_int, vBool_bool, vStr_string, vPtr_pointer, vSl_slice, vMap_map, vFun_func, vAgg_agg, vTup_tuple, lC_cons, lN_nil, aP_some, shO_none, shO_some, Option.isNone_none, Option.isNone_some, Bool.not_true, Bool.not_false]
    refine w_rd O R 0 (j := 0) rfl rfl ?_
    simp only [oB_some, bC_true, bC_false, vInt_int, vBool_bool, vStr_string, vPtr_pointer, vSl_slice, vMap_map, vFun_func, vAgg_agg, vTup_tuple, lC_cons, lN_nil, aP_some, shO_none, shO_some, Option.isNone_none, Option.isNone_some, Bool.not_true, Bool.not_false]
    refine tk_ix O R rfl rfl (List.getElem?_eq_getElem hlt) fun i off hr => ?_
    rw [hr 1 (by omega)]
    simp only [tkCells, List.getElem?_cons_succ, List.getElem?_cons_zero, oB_some, bC_true, bC_false, vInt_int, vBool_bool, vStr_string, vPtr_pointer, vSl_slice, vMap_map, vFun_func, vAgg_agg, vTup_tuple, lC_cons, lN_nil, aP_some, shO_none, shO_some, Option.isNone_none, Option.isNone_some, Bool.not_true, Bool.not_false]
    refine bC_iff (fun e => ?_) (fun e => ?_)
    · have : (m.tasks.any fun t => t.st == s) = true := by
        rw [List.any_eq_true]
        refine ⟨_, List.getElem_mem hlt, ?_⟩
        simp at e ⊢; omega
      rw [this] at hq; exact hq
    · rw [wrapS (by simp [big] at hl; omega)]
      refine ih (j + 1) (by omega) fun i' t hi ht => ?_
      rcases Nat.lt_or_ge i' j with x | x
      · exact hs i' t x ht
      · have : i' = j := by omega
        subst this
        rw [List.getElem?_eq_getElem hlt] at ht; cases ht
        intro e2; simp at e; omega
theorem some_ok {N : RN} {m : M} {s : Nat} (O : Own h μ ρ) (R : RefAt ρ N m) (hl : m.tasks.length < big) (hq : Q (.bool (m.tasks.any fun t => t.st == s)) h) : EvQ P f_p_brickyardref20_Sched_Some [.pointer (some ⟨N.r, 0, none⟩), .int .i64 (s : Int)] h Q :=
  r_p_brickyardref20_Sched_Some (some_loop O R hl hq _ 0 rfl fun i t hi => by omega)

/-- What the scheduler's function may do: its own names, its own state. -/
def RefTo (Q : Value → AW → Prop) (ρ : Store) (N : RN) (v : Value) (m' : M) : Prop :=
  ∀ h' μ' ρ' N', Own h' μ' ρ' → RefAt ρ' N' m' → N'.ns = N.ns → N'.r = N.r → Fra N.ns ρ ρ' → Q v h'

theorem want1_some {m : M} {k : Str} {j : Nat} (h : tix m.tasks k = some j) : want1 m k = m := by unfold want1; rw [h]
theorem want1_none {m : M} {k : Str} (h : tix m.tasks k = none) : want1 m k = { m with tasks := m.tasks ++ [newT k], queue := m.queue ++ [k] } := by unfold want1; rw [h]
theorem at1 {a : Option Addr} {x : List Str} (H : Sl h a (strs x)) {z : Int} {j n : Nat} (hz : z = j) (hn : n = x.length) (hj : j < x.length) {f : Str → Prop} (hf : f x[j]) : aP a fun i off => oB (natIdx z n) fun j => oB (h.rd i (off + j * 1)) fun v => vStr v f :=
  H.at1 (v := .string x[j]) hz (by simpa using hn) (by simp [hj]) (by simpa using hf)
theorem want_loop {ks : List Str} {a : Option Addr} {c : Nat} (hk : ks.length ≤ 1000000) :
    ∀ (n j : Nat) {h : AW} {μ : Paint} {ρ : Store} {N : RN} {m : M}, ks.length - j = n → j ≤ ks.length → Own h μ ρ → RefAt ρ N m → Rd ρ N.ns a (strs ks) → m.tasks.length + n ≤ 1000000 → m.queue.length + n ≤ 1000000 →
      RefTo Q ρ N (.int .i64 0) (wantL m (ks.drop j)) → unitAt P f_p_brickyardref20_Sched_Want 7 [0, 1, 6] [.pointer (some ⟨N.r, 0, none⟩), .slice a ks.length c, .int .i64 (j : Int)] h Q := by
  intro n
  induction n with
  | zero =>
    intro j h μ ρ N m hn hj O R X ht hqq hq
    refine r_p_brickyardref20_Sched_Want_7 ?_
    rw [geI (by omega)]
    simp only [oB_some, bC_true, bC_false, vInt_int, vBool_bool, vStr_string, vPtr_pointer, vSl_slice, vMap_map, vFun_func, vAgg_agg, vTup_tuple, lC_cons, lN_nil, aP_some, shO_none, shO_some, Option.isNone_none, Option.isNone_some, Bool.not_true, Bool.not_false]
    have : ks.drop j = [] := List.drop_eq_nil_of_le (by omega)
    rw [this] at hq
    exact hq _ _ _ _ O R rfl rfl Fra.refl
  | succ n ih =>
    intro j h μ ρ N m hn hj O R X ht hqq hq
    have hlt : j < ks.length := by omega
    refine r_p_brickyardref20_Sched_Want_7 ?_
    rw [ltI hlt]
    simp only [oB_some, bC_true, bC_false, vInt_int, vBool_bool, vStr_string, vPtr_pointer, vSl_slice, vMap_map, vFun_func, vAgg_agg, vTup_tuple, lC_cons, lN_nil, aP_some, shO_none, shO_some, Option.isNone_none, Option.isNone_some, Bool.not_true, Bool.not_false]
    refine at1 (X.sl O) rfl rfl hlt ?_
    rw [List.drop_eq_getElem_cons hlt] at hq
    refine find_ok O R (by simp [big]; omega) ?_
    simp only [oB_some, bC_true, bC_false, vInt_int, vBool_bool, vStr_string, vPtr_pointer, vSl_slice, vMap_map, vFun_func, vAgg_agg, vTup_tuple, lC_cons, lN_nil, aP_some, shO_none, shO_some, Option.isNone_none, Option.isNone_some, Bool.not_true, Bool.not_false]
    unfold tixI
    rcases tix_cases m.tasks ks[j] with ⟨h1, h2, _⟩ | ⟨i, t, h1, h2, h3, _, _, _⟩
    · rw [h1]
      simp only [show decide ((-1 : Int) < 0) = true from rfl, oB_some, bC_true, bC_false, vInt_int, vBool_bool, vStr_string, vPtr_pointer, vSl_slice, vMap_map, vFun_func, vAgg_agg, vTup_tuple, lC_cons, lN_nil, aP_some, shO_none, shO_some, Option.isNone_none, Option.isNone_some, Bool.not_true, Bool.not_false]
      refine w_rd O R 0 (j := 0) rfl rfl ?_
      simp only [oB_some, bC_true, bC_false, vInt_int, vBool_bool, vStr_string, vPtr_pointer, vSl_slice, vMap_map, vFun_func, vAgg_agg, vTup_tuple, lC_cons, lN_nil, aP_some, shO_none, shO_some, Option.isNone_none, Option.isNone_some, Bool.not_true, Bool.not_false]
      refine at1 (X.sl O) rfl rfl hlt ?_
      obtain ⟨μ1, ρ1, c1, O1, W1, hc1⟩ := w_block O R (tkCells (newT ks[j])) (n := 1) (sz := 5) rfl rfl
      refine w_app (P := P) O1 W1 2 ti_ty_sl_brickyardref20_Task ti_ty_brickyardref20_Task (by decide) rfl (flat_len tk_len _) (w_sl O1 W1 0 rfl) rfl rfl (by omega) (by omega) fun ta tc h2 μ2 ρ2 O2 W2 => ?_
      simp only [oB_some, bC_true, bC_false, vInt_int, vBool_bool, vStr_string, vPtr_pointer, vSl_slice, vMap_map, vFun_func, vAgg_agg, vTup_tuple, lC_cons, lN_nil, aP_some, shO_none, shO_some, Option.isNone_none, Option.isNone_some, Bool.not_true, Bool.not_false]
      refine w_wr O2 W2 1 (j := 0) rfl (by simp [RN.head]) rfl fun h3 ρ3 O3 W3 => ?_
      refine w_rd O1 W1 1 (j := 0) rfl rfl ?_
      simp only [oB_some, bC_true, bC_false, vInt_int, vBool_bool, vStr_string, vPtr_pointer, vSl_slice, vMap_map, vFun_func, vAgg_agg, vTup_tuple, lC_cons, lN_nil, aP_some, shO_none, shO_some, Option.isNone_none, Option.isNone_some, Bool.not_true, Bool.not_false]
      refine ⟨trivial, ?_⟩
      refine w_rd O3 W3 1 (j := 2) rfl rfl ?_
      simp only [oB_some, bC_true, bC_false, vInt_int, vBool_bool, vStr_string, vPtr_pointer, vSl_slice, vMap_map, vFun_func, vAgg_agg, vTup_tuple, lC_cons, lN_nil, aP_some, shO_none, shO_some, Option.isNone_none, Option.isNone_some, Bool.not_true, Bool.not_false]
      have W3' := W3.tail hc1
      have X3 := X.keep W3'.fra
      refine at1 (X3.sl O3) rfl rfl hlt ?_
      obtain ⟨μ4, ρ4, c4, O4, W4, hc4⟩ := w_block O3 W3' (strs [ks[j]]) (n := 1) (sz := 1) rfl rfl
      refine w_app (P := P) O4 W4 4 ti_ty_sl_string ti_ty_string (by decide) rfl (by simp) (w_sl O4 W4 0 rfl) rfl rfl (by omega) (by omega) fun qa qc h5 μ5 ρ5 O5 W5 => ?_
      simp only [oB_some, bC_true, bC_false, vInt_int, vBool_bool, vStr_string, vPtr_pointer, vSl_slice, vMap_map, vFun_func, vAgg_agg, vTup_tuple, lC_cons, lN_nil, aP_some, shO_none, shO_some, Option.isNone_none, Option.isNone_some, Bool.not_true, Bool.not_false]
      refine w_wr O5 W5 1 (j := 2) rfl (by simp [RN.head]) rfl fun h6 ρ6 O6 W6 => ?_
      refine w_rd O4 W4 1 (j := 2) rfl rfl ?_
      simp only [oB_some, bC_true, bC_false, vInt_int, vBool_bool, vStr_string, vPtr_pointer, vSl_slice, vMap_map, vFun_func, vAgg_agg, vTup_tuple, lC_cons, lN_nil, aP_some, shO_none, shO_some, Option.isNone_none, Option.isNone_some, Bool.not_true, Bool.not_false]
      refine ⟨trivial, ?_⟩
      rw [wrapS (by omega)]
      have W6' := W6.tail hc4
      have R6 : RefAt ρ6 ⟨N.ns, N.r, ta, tc, N.sa, N.sc, qa, qc⟩ (want1 m ks[j]) := by
        rw [want1_none h1]
        exact W6'.to (by simp [RN.rs, RN.head, newT, tkCells])
      refine ih (j + 1) (N := ⟨N.ns, N.r, ta, tc, N.sa, N.sc, qa, qc⟩) (m := want1 m ks[j]) (by omega) hlt O6 R6 (X.keep W6'.fra) (by rw [want1_none h1]; simp; omega) (by rw [want1_none h1]; simp; omega) ?_
      exact fun h' μ' ρ' N' O' R' a b F => hq _ _ _ _ O' R' a b (W6'.fra.trans F)
    · rw [h1]
      simp only [show decide ((i : Int) < 0) = false from by simp, oB_some, bC_true, bC_false, vInt_int, vBool_bool, vStr_string, vPtr_pointer, vSl_slice, vMap_map, vFun_func, vAgg_agg, vTup_tuple, lC_cons, lN_nil, aP_some, shO_none, shO_some, Option.isNone_none, Option.isNone_some, Bool.not_true, Bool.not_false]
      rw [wrapS (by omega)]
      refine ih (j + 1) (by omega) hlt O R X (by omega) (by omega) ?_
      have : wantL m (ks[j] :: ks.drop (j + 1)) = wantL m (ks.drop (j + 1)) := by
        show wantL (want1 m ks[j]) _ = _
        rw [want1_some h1]
      rw [this] at hq; exact hq
/-- What the wish for keys comes to. -/
def wantI (m : M) (ks : List Str) : Nat × M := if memB e0 ks then (2, m) else (0, wantL m ks)
theorem want_loop0 {ks : List Str} {a : Option Addr} {c : Nat} (hk : ks.length ≤ 1000000) {N : RN} {m : M} (O : Own h μ ρ) (R : RefAt ρ N m) (X : Rd ρ N.ns a (strs ks)) (ht : m.tasks.length + ks.length ≤ 1000000) (hqq : m.queue.length + ks.length ≤ 1000000)
    (hq : RefTo Q ρ N (.int .i64 ((wantI m ks).1 : Nat)) (wantI m ks).2) :
    ∀ (n j : Nat), ks.length - j = n → j ≤ ks.length → (∀ i (hi : i < ks.length), i < j → ks[i] ≠ e0) → unitAt P f_p_brickyardref20_Sched_Want 2 [0, 1, 5] [.pointer (some ⟨N.r, 0, none⟩), .slice a ks.length c, .int .i64 (j : Int)] h Q := by
  intro n
  induction n with
  | zero =>
    intro j hn hj hs
    refine r_p_brickyardref20_Sched_Want_2 ?_
    rw [geI (by omega)]
    simp only [oB_some, bC_true, bC_false, vInt_int, vBool_bool, vStr_string, vPtr_pointer, vSl_slice, vMap_map, vFun_func, vAgg_agg, vTup_tuple, lC_cons, lN_nil, aP_some, shO_none, shO_some, Option.isNone_none, Option.isNone_some, Bool.not_true, Bool.not_false]
    have : e0 ∉ ks := fun hm => by
      obtain ⟨i, hi, e⟩ := List.getElem_of_mem hm
      exact hs i hi (by omega) e
    unfold wantI at hq; rw [if_neg (by rw [memB_iff]; exact this)] at hq
    exact want_loop hk ks.length 0 rfl (by omega) O R X ht hqq hq
  | succ n ih =>
    intro j hn hj hs
    have hlt : j < ks.length := by omega
    refine r_p_brickyardref20_Sched_Want_2 ?_
    rw [ltI hlt]
    simp only [oB_some, bC_true, bC_false, vInt_int, vBool_bool, vStr_string, vPtr_pointer, vSl_slice, vMap_map, vFun_func, vAgg_agg, vTup_tuple, lC_cons, lN_nil, aP_some, shO_none, shO_some, Option.isNone_none, Option.isNone_some, Bool.not_true, Bool.not_false]
    refine at1 (X.sl O) rfl rfl hlt ?_
    refine bC_iff (fun e => ?_) (fun e => ?_)
    · have : e0 ∈ ks := by
        have e : ks[j] = e0 := bEq_iff.1 e
        rw [← e]; exact List.getElem_mem hlt
      unfold wantI at hq; rw [if_pos (memB_iff.2 this)] at hq
      exact hq _ _ _ _ O R rfl rfl Fra.refl
    · rw [wrapS (by omega)]
      refine ih (j + 1) (by omega) (by omega) fun i hi hij => ?_
      rcases Nat.lt_or_ge i j with x | x
      · exact hs i hi x
      · have : i = j := by omega
        subst this; exact bEq_false.1 e
theorem want_ok {ks : List Str} {a : Option Addr} {c : Nat} (hk : ks.length ≤ 1000000) {N : RN} {m : M} (O : Own h μ ρ) (R : RefAt ρ N m) (X : Rd ρ N.ns a (strs ks)) (ht : m.tasks.length + ks.length ≤ 1000000) (hqq : m.queue.length + ks.length ≤ 1000000)
    (hq : RefTo Q ρ N (.int .i64 ((wantI m ks).1 : Nat)) (wantI m ks).2) : EvQ P f_p_brickyardref20_Sched_Want [.pointer (some ⟨N.r, 0, none⟩), .slice a ks.length c] h Q :=
  r_p_brickyardref20_Sched_Want (want_loop0 hk O R X ht hqq hq ks.length 0 rfl (by omega) fun i _ hi => by omega)

theorem leave_loop {k : Str} : ∀ (n j : Nat) {h : AW} {ρ : Store} {m : M} {N : RN}, m.slots.length - j = n → m.slots.length < big → Own h μ ρ → RefAt ρ N m →
    (∀ h' ρ', Own h' μ ρ' → RefAt ρ' N { m with slots := m.slots.take j ++ leaveL (m.slots.drop j) k } → Fra N.ns ρ ρ' → Q (.tuple #[]) h') →
    unitAt P f_p_brickyardref20_Sched_leave 1 [0, 1, 4] [.pointer (some ⟨N.r, 0, none⟩), .string k, .int .i64 (j : Int)] h Q := by
  intro n
  induction n with
  | zero =>
    intro j h ρ m N hn hl O R hq
    refine r_p_brickyardref20_Sched_leave_1 ?_
    simp only [oB_some, bC_true, bC_false, vInt_int, vBool_bool, vStr_string, vPtr_pointer, vSl_slice, vMap_map, vFun_func, vAgg_agg, vTup_tuple, lC_cons, lN_nil, aP_some, shO_none, shO_some, Option.isNone_none, Option.isNone_some, Bool.not_true, Bool.not_false]
    refine w_rd O R 0 (j := 1) rfl rfl ?_
    simp only [oB_some, bC_true, bC_false, vInt_int, vBool_bool, vStr_string, vPtr_pointer, vSl_slice, vMap_map, vFun_func, vAgg_agg, vTup_tuple, lC_cons, lN_nil, aP_some, shO_none, shO_some, Option.isNone_none, Option.isNone_some, Bool.not_true, Bool.not_false]
    rw [geI (by omega)]
    simp only [oB_some, bC_true, bC_false, vInt_int, vBool_bool, vStr_string, vPtr_pointer, vSl_slice, vMap_map, vFun_func, vAgg_agg, vTup_tuple, lC_cons, lN_nil, aP_some, shO_none, shO_some, Option.isNone_none, Option.isNone_some, Bool.not_true, Bool.not_false]
    refine hq _ _ O ?_ Fra.refl
    rw [List.drop_eq_nil_of_le (by omega), List.take_of_length_le (by omega)]
    simpa [leaveL] using R
  | succ n ih =>
    intro j h ρ m N hn hl O R hq
    have hlt : j < m.slots.length := by omega
    refine r_p_brickyardref20_Sched_leave_1 ?_
    simp only [oB_some, bC_true, bC_false, vInt_int, vBool_bool, vStr_string, vPtr_pointer, vSl_slice, vMap_map, vFun_func, vAgg_agg, vTup_tuple, lC_cons, lN_nil, aP_some, shO_none, shO_some, Option.isNone_none, Option.isNone_some, Bool.not_true, Bool.not_false]
    refine w_rd O R 0 (j := 1) rfl rfl ?_
    simp only [oB_some, bC_true, bC_false, vInt_int, vBool_bool, vStr_string, vPtr_pointer, vSl_slice, vMap_map, vFun_func, vAgg_agg, vTup_tuple, lC_cons, lN_nil, aP_some, shO_none, shO_some, Option.isNone_none, Option.isNone_some, Bool.not_true, Bool.not_false]
    rw [ltI hlt]
    simp only [oB_some, bC_true, bC_false, vInt_int, vBool_bool, vStr_string, vPtr_pointer, vSl_slice, vMap_map, vFun_func, vAgg_agg, vTup_tuple, lC_cons, lN_nil, aP_some, shO_none, shO_some, Option.isNone_none, Option.isNone_some, Bool.not_true, Bool.not_false]
    refine w_rd O R 0 (j := 1) rfl rfl ?_
    simp only [oB_some, bC_true, bC_false, vInt_int, vBool_bool, vStr_string, vPtr_pointer, vSl_slice, vMap_map, vFun_func, vAgg_agg, vTup_tuple, lC_cons, lN_nil, aP_some, shO_none, shO_some, Option.isNone_none, Option.isNone_some, Bool.not_true, Bool.not_false]
    refine at1 (w_sl O R 2 rfl) rfl rfl hlt ?_
    rw [wrapS (by simp [big] at hl; omega)]
    have hd : m.slots.drop j = m.slots[j] :: m.slots.drop (j + 1) := List.drop_eq_getElem_cons hlt
    refine bC_iff (fun e => ?_) (fun e => ?_)
    · have e : m.slots[j] = k := bEq_iff.1 e
      refine w_rd O R 0 (j := 1) rfl rfl ?_
      simp only [oB_some, bC_true, bC_false, vInt_int, vBool_bool, vStr_string, vPtr_pointer, vSl_slice, vMap_map, vFun_func, vAgg_agg, vTup_tuple, lC_cons, lN_nil, aP_some, shO_none, shO_some, Option.isNone_none, Option.isNone_some, Bool.not_true, Bool.not_false]
      refine w_i1_wr O R 2 rfl rfl (by simp) (by simpa using hlt) rfl fun h1 ρ1 O1 W1 => ?_
      have R1 : RefAt ρ1 N { m with slots := m.slots.set j e0 } := W1.to (by simp [RN.rs, RN.head, List.map_set])
      refine ih (j + 1) (m := { m with slots := m.slots.set j e0 }) (by simp; omega) (by simpa using hl) O1 R1 fun h' ρ' O' R' F => hq _ _ O' ?_ (W1.fra.trans F)
      refine Pcs.to R' ?_
      have : (m.slots.set j e0).take (j + 1) ++ leaveL ((m.slots.set j e0).drop (j + 1)) k = m.slots.take j ++ leaveL (m.slots.drop j) k := by
        rw [hd, List.drop_set_of_lt (by omega), List.take_succ_eq_append_getElem (by simpa using hlt), List.take_set_of_le (by omega), List.append_assoc]
        show _ = _ ++ (if m.slots[j] = k then e0 else m.slots[j]) :: leaveL (m.slots.drop (j + 1)) k
        rw [if_pos e, List.getElem_set_self]; rfl
      simp only [this]
    · have e : m.slots[j] ≠ k := bEq_false.1 e
      refine ih (j + 1) (by omega) hl O R fun h' ρ' O' R' F => hq _ _ O' ?_ F
      refine Pcs.to R' ?_
      have : m.slots.take (j + 1) ++ leaveL (m.slots.drop (j + 1)) k = m.slots.take j ++ leaveL (m.slots.drop j) k := by
        rw [hd, List.take_succ_eq_append_getElem hlt, List.append_assoc]
        show _ = _ ++ (if m.slots[j] = k then e0 else m.slots[j]) :: leaveL (m.slots.drop (j + 1)) k
        rw [if_neg e]; rfl
      simp only [this]
theorem leave_ok {k : Str} {N : RN} {m : M} (O : Own h μ ρ) (R : RefAt ρ N m) (hl : m.slots.length < big) (hq : ∀ h' ρ', Own h' μ ρ' → RefAt ρ' N { m with slots := leaveL m.slots k } → Fra N.ns ρ ρ' → Q (.tuple #[]) h') :
    EvQ P f_p_brickyardref20_Sched_leave [.pointer (some ⟨N.r, 0, none⟩), .string k] h Q :=
  r_p_brickyardref20_Sched_leave (leave_loop _ 0 rfl hl O R (by simpa using hq))
end Go.Proofs.Ytgdkekdedgkglaa
end
