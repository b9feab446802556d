/- A deterministic heap for the model, proved sound, and walks of the program over it: part 10. No condition. -/
import Derived.Test.YtamoepfiodgbbaaGreatDoorAb1
import Derived.Test.YtamoepfiodgbbaaGreatDoorAb2
import Derived.Test.YtamoepfiodgbbaaGreatDoorAb3
import Derived.Test.YtamoepfiodgbbaaGreatDoorAb4
import Derived.Test.YtamoepfiodgbbaaGreatDoorAb6
import Derived.Test.YtamoepfiodgbbaaGreatDoorCd1
import Derived.Test.YtamoepfiodgbbaaGreatDoorAb5
import Derived.Test.YtamoepfiodgbbaaGreatDoorCd3
import Derived.Test.YtamoepfiodgbbaaGreatDoorCd2
set_option linter.unusedVariables false
set_option linter.unusedSimpArgs false
set_option linter.unusedSectionVars false
section
/- Statements as lines: the program's walk. -/
namespace Go.Proofs.YtamoepfiodgbbaaGreatDoor
open Go.Abs Go.Abs.Fo
set_option maxRecDepth 100000
attribute [local irreducible] unitAt EvQ
variable {h : AW} {μ : Paint} {ρ ρ' : Store} {Q : Value → AW → Prop}
/-- No statement has too many words. -/
def Slim : F → Prop
  | .nil => True
  | .cons _ args _ b r => args.length ≤ 262144 ∧ Slim b ∧ Slim r
theorem slim_full : ∀ {f : F}, full f ≤ 262144 → Slim f
  | .nil, _ => trivial
  | .cons _ args _ b r, h => by
    simp only [full] at h
    have : args.length ≤ (args.map fun s => 1 + s.size).sum := by
      have := sum_len (l := args.map fun s => 1 + s.size) (by intro a ha; obtain ⟨l, _, rfl⟩ := List.mem_map.1 ha; omega)
      simpa using this
    exact ⟨by omega, slim_full (by omega), slim_full (by omega)⟩
theorem len_lines : ∀ f : F, f.len ≤ f.lines.length
  | .nil => Nat.le_refl _
  | .cons _ _ _ b r => by
    have := len_lines r
    simp only [F.len, F.lines, List.length_cons, List.length_append]
    omega
/-- A statement, copied; the place is seen from before. -/
theorem st_copyB (O : Own h μ ρ') (F0 : Fra [] ρ ρ') {pre rest body : F} {op kk : Int} {args : List Str} {a : Option Addr} {c : List Value} {N : Nat} {z : Int} (X : Vw ρ [] a c) (L : Lies (Vw ρ []) (pre.app (.cons op args kk body rest)) c)
    {ρ1 : Store} {ns : List Nat} {rs : List Res} (W : Pcs ρ1 ρ' ns rs)
    (hz : z = pre.len) (hN : N = (pre.app (.cons op args kk body rest)).len) {f : AW → Prop}
    (H : ∀ h' μ' ρ2 cc aa ac ba bc, Own h' μ' ρ2 → Pcs ρ1 ρ2 (cc :: ns) (.var h.next [.int .i64 op, .slice aa args.length ac, .int .i64 kk, .slice ba body.len bc] :: rs) → ρ1 cc = none → Fra [] ρ' ρ2 → Vw ρ [] aa (strs args) → Ly ρ body ba → f h') :
    aP a fun m7 m8 => oB (natIdx z N) fun m9 => oB (AW.rd h m7 (m8 + m9 * 4)) fun v10 => vInt .i64 v10 fun n11 => oB (AW.rd h m7 (m8 + m9 * 4 + 1)) fun v12 => vSl v12 fun p13 m14 m15 => oB (AW.rd h m7 (m8 + m9 * 4 + 1 + 1)) fun v16 => vInt .i64 v16 fun n17 =>
      oB (AW.rd h m7 (m8 + m9 * 4 + 1 + 1 + 1)) fun v18 => vSl v18 fun p19 m20 m21 => oB (AW.wrL (AW.addVar h [.int .i64 0, .slice none 0 0, .int .i64 0, .slice none 0 0]) (AW.next h) 0 [.int .i64 n11, .slice p13 m14 m15, .int .i64 n17, .slice p19 m20 m21]) f := by
  obtain ⟨aa, ac, ba, bc, bcells, v1, v2, v3, c0, c1, c2, c3⟩ := lies_at L
  refine ((X.keep F0).sl O).ix (sz := 4) hz (by rw [hN]; exact L.len) (by omega) (by rw [hN]; exact app_lt) fun i off ea hr => ?_
  have r0 := hr 0 (by omega)
  rw [Nat.add_zero, Nat.add_zero] at r0
  refine oB_bind (r0.trans c0) ?_
  simp only [vInt_int]
  refine oB_bind ((hr 1 (by omega)).trans c1) ?_
  simp only [vSl_slice]
  refine oB_bind ((hr 2 (by omega)).trans c2) ?_
  simp only [vInt_int]
  refine oB_bind ((hr 3 (by omega)).trans c3) ?_
  simp only [vSl_slice]
  refine w_copyF O W rfl rfl rfl fun h1 μ1 ρ1 cc O1 W1 hc F1 => ?_
  exact H h1 μ1 ρ1 cc aa ac ba bc O1 W1 hc F1 v1 ⟨_, v2, v3⟩
/-- What the loop over some statements does. -/
def LL (rest : F) : Prop := ∀ ⦃ρ : Store⦄ ⦃cm : Nat⦄, Vw ρ [] (some ⟨5, 0, none⟩) pow10 → ρ cm = none → ∀ ⦃h : AW⦄ ⦃μ : Paint⦄ ⦃ρ1 ρ' : Store⦄ ⦃co : Nat⦄ ⦃oa : Option Addr⦄ ⦃oc : Nat⦄ ⦃acc : List Wds⦄ ⦃vs : List (Option Addr × Nat × Nat × List Value)⦄ ⦃Q : Value → AW → Prop⦄ ⦃pre : F⦄ ⦃a : Option Addr⦄ ⦃c : List Value⦄ ⦃cap : Nat⦄,
    Own h μ ρ' → Pcs ρ1 ρ' [co, cm] [.sl oa oc 1 (acc.map Wds.cell), .many vs] → ρ1 co = none → Fra [] ρ ρ1 → Vw ρ [] a c → Lies (Vw ρ []) (pre.app rest) c → (pre.app rest).len ≤ 140737488355328 → rest.wf = true → Slim rest → acc.length + rest.lines.length ≤ 1000000 → Built vs acc →
    (∀ h' μ' ρ2 oa' oc' acc' vs', Own h' μ' ρ2 → Pcs ρ1 ρ2 [co, cm] [.sl oa' oc' 1 (acc'.map Wds.cell), .many vs'] → Built vs' acc' → acc'.map Wds.x = acc.map Wds.x ++ rest.lines → (∀ x, x ∈ vs → x ∈ vs') → Q (.slice oa' acc'.length oc') h') →
    unitAt P f_action_lines 3 [3, 7, 8, 9] [.slice oa acc.length oc, .slice a (pre.app rest).len cap, .int .i64 ((pre.app rest).len : Int), .int .i64 (pre.len : Int)] h Q
theorem lines_8 {k m : Nat} {args : List Str} {body rest : F} (IB : LL body) (IR : LL rest) {cm : Nat} (T : Vw ρ [] (some ⟨5, 0, none⟩) pow10) (hcm : ρ cm = none) {ρ1 ρ' : Store} {co cx cn p na nc ac bc oc cap : Nat} {oa aa ba a nx : Option Addr} {acc : List Wds} {vs : List (Option Addr × Nat × Nat × List Value)} {pre : F} {c : List Value}
    (O : Own h μ ρ') (W : Pcs ρ1 ρ' [cn, cx, co, cm] [.sl nx nc 1 (strs (lineM k args m)), .var p [.int .i64 k, .slice aa args.length ac, .int .i64 m, .slice ba body.len bc], .sl oa oc 1 (acc.map Wds.cell), .many vs]) (hcn : ρ1 cn = none) (hcx : ρ1 cx = none) (hco : ρ1 co = none) (Fr : Fra [] ρ ρ1)
    (X : Vw ρ [] a c) (L : Lies (Vw ρ []) (pre.app (.cons k args m body rest)) c) (Lb : Ly ρ body ba) (hl : (pre.app (.cons k args m body rest)).len ≤ 140737488355328) (hbl : body.len ≤ 140737488355328) (hw : (F.cons k args m body rest).wf = true) (hs : Slim (.cons k args m body rest)) (hn : acc.length + (F.cons k args m body rest).lines.length ≤ 1000000) (B : Built vs acc) (hnx : na = (lineM k args m).length)
    (hq : ∀ h' μ' ρ2 oa' oc' acc' vs', Own h' μ' ρ2 → Pcs ρ1 ρ2 [co, cm] [.sl oa' oc' 1 (acc'.map Wds.cell), .many vs'] → Built vs' acc' → acc'.map Wds.x = acc.map Wds.x ++ (F.cons k args m body rest).lines → (∀ x, x ∈ vs → x ∈ vs') → Q (.slice oa' acc'.length oc') h') :
    unitAt P f_action_lines 8 [3, 5, 6, 7, 8, 9] [.slice oa acc.length oc, .pointer (some ⟨p, 0, none⟩), .slice nx na nc, .slice a (pre.app (.cons k args m body rest)).len cap, .int .i64 ((pre.app (.cons k args m body rest)).len : Int), .int .i64 (pre.len : Int)] h Q := by
  subst hnx
  have hlt : pre.len < (pre.app (.cons k args m body rest)).len := app_lt
  simp only [F.wf, Bool.and_eq_true] at hw
  obtain ⟨⟨⟨w1, w2⟩, w3⟩, w4⟩ := hw
  obtain ⟨s1, s2, s3⟩ := hs
  have hlines : (F.cons (k : Int) args (m : Int) body rest).lines = lineM k args m :: ((if opensM k = true then body.lines ++ [[wEnd]] else []) ++ rest.lines) := rfl
  rw [hlines] at hn hq
  simp only [List.length_cons, List.length_append] at hn
  obtain ⟨e3, e4⟩ := snocs pre k args m body
  have hcap : (lineM (k : Int) args (m : Int)).length ≤ nc := by have := w_cap O W 0 rfl; simpa using this
  refine r_action_lines_8 ?_
  obtain ⟨μ1, ρ2, O1, W1⟩ := w_into O W hcn 2 rfl
  obtain ⟨μ2, ρ3, ch, O2, W2, hch⟩ := w_block O1 W1 [.slice nx (lineM (k : Int) args (m : Int)).length nc] (n := 1) (sz := 1) rfl rfl
  refine w_app (P := P) O2 W2 2 (n := acc.length) (m := 1) ti_ty_sl_sl_string ti_ty_sl_string (by decide) rfl (by simp) (w_sl O2 W2 0 rfl) rfl rfl (by omega) (by omega) fun oa1 oc1 h2 μ4 ρ5 O4 W4 => ?_
  have W5 := W4.tail hch
  have W6 : Pcs ρ1 ρ5 [cx, co, cm] [.var p [.int .i64 k, .slice aa args.length ac, .int .i64 m, .slice ba body.len bc], .sl oa1 oc1 1 ((acc ++ [(⟨nx, nc, lineM k args m⟩ : Wds)]).map Wds.cell), .many ((nx, nc, 1, strs (lineM k args m)) :: vs)] := W5.eq (by simp [Wds.cell])
  have B1 := B.snoc (p := ⟨nx, nc, lineM k args m⟩) hcap
  simp only [oB_some, bC_true, bC_false, vInt_int, vBool_bool, vStr_string, vPtr_pointer, vSl_slice, vMap_map, vFun_func, vAgg_agg, vTup_tuple, vIfc_nil, vIfc_iface, lC_cons, lN_nil, aP_some, shO_none, shO_some, Option.isNone_none, Option.isNone_some, Bool.not_true, Bool.not_false]
  refine w_rd O4 W6 0 (j := 0) rfl rfl ?_
  simp only [oB_some, bC_true, bC_false, vInt_int, vBool_bool, vStr_string, vPtr_pointer, vSl_slice, vMap_map, vFun_func, vAgg_agg, vTup_tuple, vIfc_nil, vIfc_iface, lC_cons, lN_nil, aP_some, shO_none, shO_some, Option.isNone_none, Option.isNone_some, Bool.not_true, Bool.not_false]
  refine opens_ok ?_
  simp only [oB_some, bC_true, bC_false, vInt_int, vBool_bool, vStr_string, vPtr_pointer, vSl_slice, vMap_map, vFun_func, vAgg_agg, vTup_tuple, vIfc_nil, vIfc_iface, lC_cons, lN_nil, aP_some, shO_none, shO_some, Option.isNone_none, Option.isNone_some, Bool.not_true, Bool.not_false]
  rw [wrapS (by omega)]
  have hnm : ∀ c, c ∈ [cx, co, cm] → ρ c = none := fun c hc => by
    simp at hc; rcases hc with rfl | rfl | rfl
    · exact Fr.none0 hcx
    · exact Fr.none0 hco
    · exact hcm
  refine bC_iff (fun ho => ?_) (fun ho => ?_)
  · rw [ho] at hn hq
    simp only [if_true, List.length_append, List.length_cons, List.length_nil] at hn hq
    refine w_rd O4 W6 0 (j := 3) rfl rfl ?_
    simp only [oB_some, bC_true, bC_false, vInt_int, vBool_bool, vStr_string, vPtr_pointer, vSl_slice, vMap_map, vFun_func, vAgg_agg, vTup_tuple, vIfc_nil, vIfc_iface, lC_cons, lN_nil, aP_some, shO_none, shO_some, Option.isNone_none, Option.isNone_some, Bool.not_true, Bool.not_false]
    refine r_action_lines ?_
    obtain ⟨ρ7, cb, O6, W7, hcb⟩ := w_nil O4 W6.self.tail'.tail' 1
    have F6 : Fra [] ρ ρ5 := Fr.via W6.fra hnm
    obtain ⟨bcells, bX, bL⟩ := Lb
    refine IB T hcm (acc := []) (pre := .nil) O6 W7 hcb F6 bX bL hbl w3 s2 (by simp only [List.length_nil]; omega) Built.nil fun h7 μ7 ρ8 ba2 bc2 accb vs2 O7 W8 B2 e2 hmore => ?_
    simp only [List.map_nil, List.nil_append] at e2
    have hlb : accb.length = body.lines.length := by have := congrArg List.length e2; simpa using this
    simp only [oB_some, bC_true, bC_false, vInt_int, vBool_bool, vStr_string, vPtr_pointer, vSl_slice, vMap_map, vFun_func, vAgg_agg, vTup_tuple, vIfc_nil, vIfc_iface, lC_cons, lN_nil, aP_some, shO_none, shO_some, Option.isNone_none, Option.isNone_some, Bool.not_true, Bool.not_false]
    have W9 := W6.call1 (fs := [cx, co]) (ms := [cm]) (xs := [_, _]) rfl W8 hcb
    have hcb1 : ρ1 cb = none := W6.not0 hcb
    refine w_app (P := P) O7 W9 2 (n := acc.length + 1) (m := accb.length) ti_ty_sl_sl_string ti_ty_sl_string (by decide) rfl (by simp) (w_sl O7 W9 0 rfl) (by simp) (allOne_cells _) (by omega) (by omega) fun oa3 oc3 h8 μ8 ρ9 O8 W10 => ?_
    have W11 := W10.tail hcb1
    have W12 : Pcs ρ1 ρ9 [cx, co, cm] [.var p [.int .i64 k, .slice aa args.length ac, .int .i64 m, .slice ba body.len bc], .sl oa3 oc3 1 ((acc ++ [(⟨nx, nc, lineM k args m⟩ : Wds)] ++ accb).map Wds.cell), .many vs2] := W11.eq (by simp)
    have B3 : Built vs2 (acc ++ [(⟨nx, nc, lineM k args m⟩ : Wds)] ++ accb) := (B1.more hmore).app B2
    simp only [oB_some, bC_true, bC_false, vInt_int, vBool_bool, vStr_string, vPtr_pointer, vSl_slice, vMap_map, vFun_func, vAgg_agg, vTup_tuple, vIfc_nil, vIfc_iface, lC_cons, lN_nil, aP_some, shO_none, shO_some, Option.isNone_none, Option.isNone_some, Bool.not_true, Bool.not_false]
    rw [show acc.length + 1 + accb.length = (acc ++ [(⟨nx, nc, lineM k args m⟩ : Wds)] ++ accb).length from by simp; omega]
    refine app_line O8 W12 1 2 (by decide) rfl rfl [wEnd] (by simp; omega) fun h9 μ9 ρ10 oa4 oc4 q hq1 hq2 O9 W13 => ?_
    simp only [oB_some, bC_true, bC_false, vInt_int, vBool_bool, vStr_string, vPtr_pointer, vSl_slice, vMap_map, vFun_func, vAgg_agg, vTup_tuple, vIfc_nil, vIfc_iface, lC_cons, lN_nil, aP_some, shO_none, shO_some, Option.isNone_none, Option.isNone_some, Bool.not_true, Bool.not_false]
    have W14 := W13.tail hcx
    have B4 := B3.snoc (p := q) (by rw [hq1, hq2]; decide)
    rw [← e3] at L hl ⊢
    rw [← e4, show (acc ++ [(⟨nx, nc, lineM k args m⟩ : Wds)] ++ accb).length + 1 = (acc ++ [(⟨nx, nc, lineM k args m⟩ : Wds)] ++ accb ++ [q]).length from by simp; omega]
    refine IR T hcm O9 W14 hco Fr X L hl w4 s3 (by simp; omega) B4 fun h' μ' ρ' oa' oc' acc' vs' O' W' B' e' hm' => ?_
    refine hq h' μ' ρ' oa' oc' acc' vs' O' W' B' ?_ fun x hx => hm' _ (List.mem_cons_of_mem _ (hmore _ (List.mem_cons_of_mem _ hx)))
    rw [e']
    simp [hq1, e2]
  · rw [ho] at hn hq
    simp only [Bool.false_eq_true, if_false, List.length_nil, List.nil_append] at hn hq
    rw [← e3] at L hl ⊢
    rw [← e4, show acc.length + 1 = (acc ++ [(⟨nx, nc, lineM k args m⟩ : Wds)]).length from by simp]
    refine IR T hcm O4 (W6.tail hcx) hco Fr X L hl w4 s3 (by simp; omega) B1 fun h' μ' ρ' oa' oc' acc' vs' O' W' B' e' hm' => ?_
    refine hq h' μ' ρ' oa' oc' acc' vs' O' W' B' ?_ fun x hx => hm' _ (List.mem_cons_of_mem _ hx)
    rw [e']
    simp
theorem lines_loop : ∀ rest : F, LL rest
  | .nil => by
    intro ρ cm T hcm h μ ρ1 ρ' co oa oc acc vs Q pre a c cap O W hco Fr X L hl hw hs hn B hq
    refine r_action_lines_3 ?_
    rw [F.app_nil, geI (Nat.le_refl _)]
    simp only [oB_some, bC_true, bC_false, vInt_int, vBool_bool, vStr_string, vPtr_pointer, vSl_slice, vMap_map, vFun_func, vAgg_agg, vTup_tuple, vIfc_nil, vIfc_iface, lC_cons, lN_nil, aP_some, shO_none, shO_some, Option.isNone_none, Option.isNone_some, Bool.not_true, Bool.not_false]
    exact hq _ _ _ _ _ acc vs O W B (by simp [F.lines]) fun _ x => x
  | .cons op args kk body rest => by
    intro ρ cm T hcm h μ ρ1 ρ' co oa oc acc vs Q pre a c cap O W hco Fr X L hl hw hs hn B hq
    have hlt : pre.len < (pre.app (.cons op args kk body rest)).len := app_lt
    have w1 : F.fine op args.length kk = true := by
      have := hw; simp only [F.wf, Bool.and_eq_true] at this; exact this.1.1.1
    unfold F.fine at w1
    simp only [Bool.and_eq_true, Bool.or_eq_true, decide_eq_true_eq] at w1
    obtain ⟨⟨⟨⟨⟨k1, k2⟩, k3⟩, k4⟩, k5⟩, k6⟩ := w1
    obtain ⟨k, rfl⟩ : ∃ k : Nat, op = k := ⟨op.toNat, by omega⟩
    obtain ⟨m, rfl⟩ : ∃ m : Nat, kk = m := ⟨kk.toNat, by omega⟩
    have hal := hs.1
    have hnm : ∀ c, c ∈ [co, cm] → ρ c = none := fun c hc => by
      simp at hc; rcases hc with rfl | rfl
      · exact Fr.none0 hco
      · exact hcm
    have F0 : Fra [] ρ ρ' := Fr.via W.fra hnm
    refine r_action_lines_3 ?_
    rw [ltI hlt]
    simp only [oB_some, bC_true, bC_false, vInt_int, vBool_bool, vStr_string, vPtr_pointer, vSl_slice, vMap_map, vFun_func, vAgg_agg, vTup_tuple, vIfc_nil, vIfc_iface, lC_cons, lN_nil, aP_some, shO_none, shO_some, Option.isNone_none, Option.isNone_some, Bool.not_true, Bool.not_false]
    refine st_copyB O F0 X L W rfl rfl fun h1 μ1 ρx cx aa ac ba bc O1 W1 hcx F1 va la => ?_
    have hcx0 : ρ cx = none := Fr.none0 hcx
    have hnm1 : ∀ c, c ∈ [cx, co, cm] → ρ c = none := fun c hc => by
      rcases List.mem_cons.1 hc with rfl | hc
      · exact hcx0
      · exact hnm c hc
    refine w_rd O1 W1 0 (j := 0) rfl rfl ?_
    simp only [oB_some, bC_true, bC_false, vInt_int, vBool_bool, vStr_string, vPtr_pointer, vSl_slice, vMap_map, vFun_func, vAgg_agg, vTup_tuple, vIfc_nil, vIfc_iface, lC_cons, lN_nil, aP_some, shO_none, shO_some, Option.isNone_none, Option.isNone_some, Bool.not_true, Bool.not_false]
    refine word_ok O1 (by omega) fun h2 μ2 ρ2 O2 F2 => ?_
    have W2 := W1.keep0 F2
    simp only [oB_some, bC_true, bC_false, vInt_int, vBool_bool, vStr_string, vPtr_pointer, vSl_slice, vMap_map, vFun_func, vAgg_agg, vTup_tuple, vIfc_nil, vIfc_iface, lC_cons, lN_nil, aP_some, shO_none, shO_some, Option.isNone_none, Option.isNone_some, Bool.not_true, Bool.not_false]
    obtain ⟨μ3, ρ3, cn, O3, W3, hcn⟩ := w_block O2 W2 (strs [wordM k]) (n := 1) (sz := 1) rfl rfl
    have hnm3 : ∀ c, c ∈ [cn, cx, co, cm] → ρ c = none := fun c hc => by
      rcases List.mem_cons.1 hc with rfl | hc
      · exact Fr.none0 hcn
      · exact hnm1 c hc
    have F3 : Fra [] ρ ρ3 := Fr.via W3.fra hnm3
    repeat (first | refine ⟨rfl, ?_⟩ | refine ⟨trivial, ?_⟩ | simp only [oB_some, bC_true, bC_false, vInt_int, vBool_bool, vStr_string, vPtr_pointer, vSl_slice, vMap_map, vFun_func, vAgg_agg, vTup_tuple, vIfc_nil, vIfc_iface, lC_cons, lN_nil, aP_some, shO_none, shO_some, Option.isNone_none, Option.isNone_some, Bool.not_true, Bool.not_false] | refine w_rd (by assumption) (by assumption) 0 (by rfl) (by rfl) ?_ | refine w_rd (by assumption) (by assumption) 1 (by rfl) (by rfl) ?_ | refine w_wrL (by assumption) (by assumption) 0 (by rfl) (Nat.le_of_ble_eq_true (by rfl)) (by rfl) fun h ρz O W => ?_ | refine w_wrL (by assumption) (by assumption) 1 (by rfl) (Nat.le_of_ble_eq_true (by rfl)) (by rfl) fun h ρz O W => ?_ | refine w_wr (by assumption) (by assumption) 0 (by rfl) (Nat.le_of_ble_eq_true (by rfl)) (by rfl) fun h ρz O W => ?_ | refine w_wr (by assumption) (by assumption) 1 (by rfl) (Nat.le_of_ble_eq_true (by rfl)) (by rfl) fun h ρz O W => ?_)
    refine w_app (P := P) O3 W3 0 (n := 1) (m := args.length) ti_ty_sl_string ti_ty_string (by decide) rfl rfl ((va.keep F3).sl O3) (by simp) allOne_strs (by omega) (by omega) fun nx nc h4 μ4 ρ4 O4 W4 => ?_
    have hbl : body.len ≤ 140737488355328 := by
      have := len_lines body
      have w2 : (opensM k || decide (body.len = 0)) = true := by
        have := hw; simp only [F.wf, Bool.and_eq_true] at this; exact this.1.1.2
      cases ho : opensM (k : Int) with
      | true =>
        simp only [F.lines, ho, if_true, List.length_cons, List.length_append] at hn
        omega
      | false =>
        rw [ho] at w2
        simp at w2
        omega
    repeat (first | refine ⟨rfl, ?_⟩ | refine ⟨trivial, ?_⟩ | simp only [oB_some, bC_true, bC_false, vInt_int, vBool_bool, vStr_string, vPtr_pointer, vSl_slice, vMap_map, vFun_func, vAgg_agg, vTup_tuple, vIfc_nil, vIfc_iface, lC_cons, lN_nil, aP_some, shO_none, shO_some, Option.isNone_none, Option.isNone_some, Bool.not_true, Bool.not_false] | refine w_rd (by assumption) (by assumption) 0 (by rfl) (by rfl) ?_ | refine w_rd (by assumption) (by assumption) 1 (by rfl) (by rfl) ?_ | refine w_wrL (by assumption) (by assumption) 0 (by rfl) (Nat.le_of_ble_eq_true (by rfl)) (by rfl) fun h ρz O W => ?_ | refine w_wrL (by assumption) (by assumption) 1 (by rfl) (Nat.le_of_ble_eq_true (by rfl)) (by rfl) fun h ρz O W => ?_ | refine w_wr (by assumption) (by assumption) 0 (by rfl) (Nat.le_of_ble_eq_true (by rfl)) (by rfl) fun h ρz O W => ?_ | refine w_wr (by assumption) (by assumption) 1 (by rfl) (Nat.le_of_ble_eq_true (by rfl)) (by rfl) fun h ρz O W => ?_)
    have F4 : Fra [] ρ ρ4 := Fr.via W4.fra hnm3
    refine bC_iff (fun e10 => ?_) (fun e10 => ?_)
    · have e10 : k = 10 := by have := eqI e10; omega
      refine w_rd O4 W4 1 (j := 2) rfl rfl ?_
      simp only [oB_some, bC_true, bC_false, vInt_int, vBool_bool, vStr_string, vPtr_pointer, vSl_slice, vMap_map, vFun_func, vAgg_agg, vTup_tuple, vIfc_nil, vIfc_iface, lC_cons, lN_nil, aP_some, shO_none, shO_some, Option.isNone_none, Option.isNone_some, Bool.not_true, Bool.not_false]
      refine itoa_ok O4 (T.keep F4) (n := m) (by omega) fun h5 μ5 ρ5 O5 F5 => ?_
      have W5 := W4.keep0 F5
      simp only [oB_some, bC_true, bC_false, vInt_int, vBool_bool, vStr_string, vPtr_pointer, vSl_slice, vMap_map, vFun_func, vAgg_agg, vTup_tuple, vIfc_nil, vIfc_iface, lC_cons, lN_nil, aP_some, shO_none, shO_some, Option.isNone_none, Option.isNone_some, Bool.not_true, Bool.not_false]
      obtain ⟨μ6, ρ6, c6, O6, W6, hc6⟩ := w_block O5 W5 (strs [digS m]) (n := 1) (sz := 1) rfl rfl
      refine w_app (P := P) O6 W6 1 (n := 1 + args.length) (m := 1) ti_ty_sl_string ti_ty_string (by decide) rfl (by simp; omega) (w_sl O6 W6 0 rfl) rfl rfl (by omega) (by omega) fun nx nc h7 μ7 ρ7 O7 W7 => ?_
      simp only [oB_some, bC_true, bC_false, vInt_int, vBool_bool, vStr_string, vPtr_pointer, vSl_slice, vMap_map, vFun_func, vAgg_agg, vTup_tuple, vIfc_nil, vIfc_iface, lC_cons, lN_nil, aP_some, shO_none, shO_some, Option.isNone_none, Option.isNone_some, Bool.not_true, Bool.not_false]
      have el : lineM (k : Int) args (m : Int) = [wordM k] ++ args ++ [digS m] := by
        unfold lineM; rw [if_pos (by omega)]; simp
      have W8 : Pcs ρ1 ρ7 [cn, cx, co, cm] [.sl nx nc 1 (strs (lineM k args m)), .var (AW.next h) [.int .i64 k, .slice aa args.length ac, .int .i64 m, .slice ba body.len bc], .sl oa oc 1 (acc.map Wds.cell), .many vs] := (W7.tail hc6).eq (by rw [el]; simp [strs])
      refine lines_8 (lines_loop body) (lines_loop rest) T hcm O7 W8 hcn hcx hco Fr X L la hl hbl hw hs hn B (by rw [el]; simp; omega) hq
    · have e10 : k ≠ 10 := by have := neI e10; omega
      have el : lineM (k : Int) args (m : Int) = [wordM k] ++ args := by
        unfold lineM; rw [if_neg (by omega)]; simp
      have W8 : Pcs ρ1 ρ4 [cn, cx, co, cm] [.sl nx nc 1 (strs (lineM k args m)), .var (AW.next h) [.int .i64 k, .slice aa args.length ac, .int .i64 m, .slice ba body.len bc], .sl oa oc 1 (acc.map Wds.cell), .many vs] := W4.eq (by rw [el]; simp [strs])
      refine lines_8 (lines_loop body) (lines_loop rest) T hcm O4 W8 hcn hcx hco Fr X L la hl hbl hw hs hn B (by rw [el]; simp; omega) hq
/-- The lines of statements. -/
theorem lines_ok (O : Own h μ ρ) (T : Vw ρ [] (some ⟨5, 0, none⟩) pow10) {f : F} {a : Option Addr} {cap : Nat} (X : Ly ρ f a) (hl : f.len ≤ 140737488355328) (hw : f.wf = true) (hs : Slim f) (hn : f.lines.length ≤ 1000000)
    (H : ∀ h' μ' ρ' co cm oa oc ps vs, Own h' μ' ρ' → Pcs ρ ρ' [co, cm] [.sl oa oc 1 (ps.map Wds.cell), .many vs] → ρ co = none → ρ cm = none → Built vs ps → ps.map Wds.x = f.lines → Q (.slice oa ps.length oc) h') : EvQ P f_action_lines [.slice a f.len cap] h Q := by
  refine r_action_lines ?_
  obtain ⟨c, X, L⟩ := X
  obtain ⟨ρ1, cm, O1, W1, hcm⟩ := w_many O (p00 (ρ := ρ))
  have W1' : Pcs ρ1 ρ1 [cm] [.many []] := W1.self
  obtain ⟨ρ2, co, O2, W2, hco⟩ := w_nil O1 W1' 1
  have F1 : Fra [] ρ ρ1 := W1.fra0 fun c hc => by simp at hc; rw [hc]; exact hcm
  refine lines_loop f (pre := .nil) (acc := []) T hcm O2 W2 hco F1 X L hl hw hs (by simp; omega) Built.nil fun h' μ' ρ' oa' oc' acc' vs' O' W' B' e' _ => ?_
  have hco0 : ρ co = none := Fra.none0 F1 hco
  have W3 : Pcs ρ ρ' [co, cm] [.sl oa' oc' 1 (acc'.map Wds.cell), .many vs'] := ⟨W'.nodup, W'.len, W'.at_, fun c r hn hc => W'.fra c r hn (F1 c r (by simp) hc)⟩
  exact H _ _ _ _ _ _ _ _ _ O' W3 hco0 hcm B' (by simpa using e')
/-- .. if it may be. -/
theorem linesB_ok (O : Own h μ ρ) (T : Vw ρ [] (some ⟨5, 0, none⟩) pow10) {f : F} {a : Option Addr} {cap : Nat} (X : Ly ρ f a) (hl : f.len ≤ 140737488355328) (hz : f.size ≤ 1000000000) (hs : Slim f)
    (H1 : f.may = false → RdQ Q ρ (.tuple ⟨[.slice none 0 0, .int .i64 2]⟩))
    (H : f.may = true → ∀ h' μ' ρ' co cm oa oc ps vs, Own h' μ' ρ' → Pcs ρ ρ' [co, cm] [.sl oa oc 1 (ps.map Wds.cell), .many vs] → ρ co = none → ρ cm = none → Built vs ps → ps.map Wds.x = f.lines → Q (.tuple ⟨[.slice oa ps.length oc, .int .i64 0]⟩) h') : EvQ P f_action_Lines [.slice a f.len cap] h Q := by
  refine r_action_Lines ?_
  refine may_ok O X hz fun h1 μ1 ρ1 O1 F1 => ?_
  simp only [oB_some, bC_true, bC_false, vInt_int, vBool_bool, vStr_string, vPtr_pointer, vSl_slice, vMap_map, vFun_func, vAgg_agg, vTup_tuple, vIfc_nil, vIfc_iface, lC_cons, lN_nil, aP_some, shO_none, shO_some, Option.isNone_none, Option.isNone_some, Bool.not_true, Bool.not_false]
  refine bC_iff (fun e => ?_) (fun e => ?_)
  · exact H1 (nb e) h1 μ1 ρ1 O1 F1
  have e := nb' e
  obtain ⟨m1, m2, m3⟩ := F.may_iff.1 e
  have hlen := F.lines_len f
  refine lines_ok O1 (T.keep F1) (X.keep F1) hl m1 hs (by omega) fun h' μ' ρ' co cm oa oc ps vs O' W' hco hcm B' e' => ?_
  simp only [oB_some, bC_true, bC_false, vInt_int, vBool_bool, vStr_string, vPtr_pointer, vSl_slice, vMap_map, vFun_func, vAgg_agg, vTup_tuple, vIfc_nil, vIfc_iface, lC_cons, lN_nil, aP_some, shO_none, shO_some, Option.isNone_none, Option.isNone_some, Bool.not_true, Bool.not_false]
  have W3 : Pcs ρ ρ' [co, cm] [.sl oa oc 1 (ps.map Wds.cell), .many vs] := ⟨W'.nodup, W'.len, W'.at_, fun c r hn hc => W'.fra c r hn (F1 c r (by simp) hc)⟩
  exact H e _ _ _ _ _ _ _ _ _ O' W3 (Fra.none0 F1 hco) (Fra.none0 F1 hcm) B' e'
end Go.Proofs.YtamoepfiodgbbaaGreatDoor
end

section
/- Numbers read from decimal digits by the library; a repeat's number. -/
namespace Go.Proofs.YtamoepfiodgbbaaGreatDoor
open Go.Abs Go.Abs.Fo
set_option maxRecDepth 100000
attribute [local irreducible] unitAt EvQ
variable {h : AW} {μ : Paint} {ρ : Store} {Q : Value → AW → Prop}
end Go.Proofs.YtamoepfiodgbbaaGreatDoor
end

section
/- What may be, and the lines of what may be, as said. -/
namespace Go.Proofs.YtamoepfiodgbbaaGreatDoor
open Go.Abs Go.Abs.Fo
set_option maxRecDepth 100000
attribute [local irreducible] unitAt EvQ
variable {h : AW} {μ : Paint} {ρ ρ' : Store} {Q : Value → AW → Prop}
theorem rsize_loop : ∀ (rest : F) {h : AW} {μ : Paint} {ρ : Store} {Q : Value → AW → Prop}, Own h μ ρ → ∀ {pre : F} {a : Option Addr} {c : List Value} {cap n : Nat}, Vw ρ [] a c → Lies (Vw ρ []) (pre.app rest) c → (pre.app rest).len ≤ 140737488355328 → n + rest.size ≤ 1000000000 →
    RdQ Q ρ (.int .i64 ((n + rest.size : Nat) : Int)) → unitAt P f_brickyardref13_Size 3 [0, 3, 4] [.slice a (pre.app rest).len cap, .int .i64 (n : Int), .int .i64 (pre.len : Int)] h Q
  | .nil, h, μ, ρ, Q, O, pre, a, c, cap, n, X, L, hl, hn, hq => by
    refine r_brickyardref13_Size_3 ?_
    rw [F.app_nil, geI (Nat.le_refl _)]
    simp only [oB_some, bC_true, bC_false, vInt_int, vBool_bool, vStr_string, vPtr_pointer, vSl_slice, vMap_map, vFun_func, vAgg_agg, vTup_tuple, vIfc_nil, vIfc_iface, lC_cons, lN_nil, aP_some, shO_none, shO_some, Option.isNone_none, Option.isNone_some, Bool.not_true, Bool.not_false]
    exact hq.now O
  | .cons op args kk body rest, h, μ, ρ, Q, O, pre, a, c, cap, n, X, L, hl, hn, hq => by
    have hlt : pre.len < (pre.app (.cons op args kk body rest)).len := app_lt
    simp only [F.size] at hn hq
    have hb := F.size_more body
    refine r_brickyardref13_Size_3 ?_
    rw [ltI hlt]
    simp only [oB_some, bC_true, bC_false, vInt_int, vBool_bool, vStr_string, vPtr_pointer, vSl_slice, vMap_map, vFun_func, vAgg_agg, vTup_tuple, vIfc_nil, vIfc_iface, lC_cons, lN_nil, aP_some, shO_none, shO_some, Option.isNone_none, Option.isNone_some, Bool.not_true, Bool.not_false]
    refine st_open O X L rfl rfl fun i off aa ac ba bc va la S => ?_
    refine oB_bind (S O Fra.refl).r3 ?_
    simp only [oB_some, bC_true, bC_false, vInt_int, vBool_bool, vStr_string, vPtr_pointer, vSl_slice, vMap_map, vFun_func, vAgg_agg, vTup_tuple, vIfc_nil, vIfc_iface, lC_cons, lN_nil, aP_some, shO_none, shO_some, Option.isNone_none, Option.isNone_some, Bool.not_true, Bool.not_false]
    obtain ⟨bcells, v2, l2⟩ := la
    refine r_brickyardref13_Size ?_
    refine rsize_loop body O (pre := .nil) (n := 0) v2 l2 (show body.len ≤ _ by omega) (by omega) fun h2 μ2 ρ2 O2 F2 => ?_
    simp only [oB_some, bC_true, bC_false, vInt_int, vBool_bool, vStr_string, vPtr_pointer, vSl_slice, vMap_map, vFun_func, vAgg_agg, vTup_tuple, vIfc_nil, vIfc_iface, lC_cons, lN_nil, aP_some, shO_none, shO_some, Option.isNone_none, Option.isNone_some, Bool.not_true, Bool.not_false]
    rw [show IntKind.wrap .i64 ((n : Int) + IntKind.wrap .i64 (1 + ((0 + body.size : Nat) : Int))) = ((n + (1 + body.size) : Nat) : Int) from by
      rw [wrap_small (n := 1 + ((0 + body.size : Nat) : Int)) (by omega) (by omega), wrap_small (n := (n : Int) + (1 + ((0 + body.size : Nat) : Int))) (by omega) (by omega)]; omega, wrapS (by omega)]
    obtain ⟨e3, e4⟩ := snocs pre op args kk body
    have := rsize_loop rest (Q := Q) O2 (pre := pre.snoc op args kk body) (n := n + (1 + body.size)) (cap := cap) (X.keep F2) (by rw [e3]; exact L.mono fun _ _ x => x.keep F2) (by rw [e3]; exact hl) (by omega) (by
      have := hq.keep F2
      rw [← Nat.add_assoc] at this; exact this)
    rw [e3, e4] at this
    exact this
theorem rsize_ok (O : Own h μ ρ) {f : F} {a : Option Addr} {cap : Nat} (X : Ly ρ f a) (hs : f.size ≤ 1000000000) (hq : RdQ Q ρ (.int .i64 (f.size : Int))) : EvQ P f_brickyardref13_Size [.slice a f.len cap] h Q := by
  obtain ⟨c, v, l⟩ := X
  have := F.size_more f
  exact r_brickyardref13_Size (rsize_loop f O (pre := .nil) (n := 0) v l (show f.len ≤ _ by omega) (by omega) (by rw [Nat.zero_add]; exact hq))
theorem rdeep_loop : ∀ (rest : F) {h : AW} {μ : Paint} {ρ : Store} {Q : Value → AW → Prop}, Own h μ ρ → ∀ {pre : F} {a : Option Addr} {c : List Value} {cap n : Nat}, Vw ρ [] a c → Lies (Vw ρ []) (pre.app rest) c → (pre.app rest).len ≤ 140737488355328 → n ≤ 1000000000 → rest.size ≤ 1000000000 →
    RdQ Q ρ (.int .i64 ((max n rest.deep : Nat) : Int)) → unitAt P f_brickyardref13_Deep 3 [0, 3, 4] [.slice a (pre.app rest).len cap, .int .i64 (n : Int), .int .i64 (pre.len : Int)] h Q
  | .nil, h, μ, ρ, Q, O, pre, a, c, cap, n, X, L, hl, hn, hs, hq => by
    refine r_brickyardref13_Deep_3 ?_
    rw [F.app_nil, geI (Nat.le_refl _)]
    simp only [oB_some, bC_true, bC_false, vInt_int, vBool_bool, vStr_string, vPtr_pointer, vSl_slice, vMap_map, vFun_func, vAgg_agg, vTup_tuple, vIfc_nil, vIfc_iface, lC_cons, lN_nil, aP_some, shO_none, shO_some, Option.isNone_none, Option.isNone_some, Bool.not_true, Bool.not_false]
    simp only [F.deep, Nat.max_zero] at hq
    exact hq.now O
  | .cons op args kk body rest, h, μ, ρ, Q, O, pre, a, c, cap, n, X, L, hl, hn, hs, hq => by
    have hlt : pre.len < (pre.app (.cons op args kk body rest)).len := app_lt
    simp only [F.deep, F.size] at hs hq
    have hb := F.size_more body
    have hd := F.deep_size body
    obtain ⟨e3, e4⟩ := snocs pre op args kk body
    refine r_brickyardref13_Deep_3 ?_
    rw [ltI hlt]
    simp only [oB_some, bC_true, bC_false, vInt_int, vBool_bool, vStr_string, vPtr_pointer, vSl_slice, vMap_map, vFun_func, vAgg_agg, vTup_tuple, vIfc_nil, vIfc_iface, lC_cons, lN_nil, aP_some, shO_none, shO_some, Option.isNone_none, Option.isNone_some, Bool.not_true, Bool.not_false]
    refine st_open O X L rfl rfl fun i off aa ac ba bc va la S => ?_
    refine oB_bind (S O Fra.refl).r0 ?_
    simp only [oB_some, bC_true, bC_false, vInt_int, vBool_bool, vStr_string, vPtr_pointer, vSl_slice, vMap_map, vFun_func, vAgg_agg, vTup_tuple, vIfc_nil, vIfc_iface, lC_cons, lN_nil, aP_some, shO_none, shO_some, Option.isNone_none, Option.isNone_some, Bool.not_true, Bool.not_false]
    refine rOpens_ok ?_
    simp only [oB_some, bC_true, bC_false, vInt_int, vBool_bool, vStr_string, vPtr_pointer, vSl_slice, vMap_map, vFun_func, vAgg_agg, vTup_tuple, vIfc_nil, vIfc_iface, lC_cons, lN_nil, aP_some, shO_none, shO_some, Option.isNone_none, Option.isNone_some, Bool.not_true, Bool.not_false]
    refine bC_iff (fun e => ?_) (fun e => ?_)
    · rw [if_pos e] at hq
      refine st_open O X L rfl rfl fun i off aa ac ba bc va la S => ?_
      refine oB_bind (S O Fra.refl).r3 ?_
      simp only [oB_some, bC_true, bC_false, vInt_int, vBool_bool, vStr_string, vPtr_pointer, vSl_slice, vMap_map, vFun_func, vAgg_agg, vTup_tuple, vIfc_nil, vIfc_iface, lC_cons, lN_nil, aP_some, shO_none, shO_some, Option.isNone_none, Option.isNone_some, Bool.not_true, Bool.not_false]
      obtain ⟨bcells, v2, l2⟩ := la
      refine r_brickyardref13_Deep ?_
      refine rdeep_loop body O (pre := .nil) (n := 0) v2 l2 (show body.len ≤ _ by omega) (by omega) (by omega) fun h2 μ2 ρ2 O2 F2 => ?_
      rw [Nat.zero_max]
      simp only [oB_some, bC_true, bC_false, vInt_int, vBool_bool, vStr_string, vPtr_pointer, vSl_slice, vMap_map, vFun_func, vAgg_agg, vTup_tuple, vIfc_nil, vIfc_iface, lC_cons, lN_nil, aP_some, shO_none, shO_some, Option.isNone_none, Option.isNone_some, Bool.not_true, Bool.not_false]
      rw [show IntKind.wrap .i64 (1 + (body.deep : Int)) = ((1 + body.deep : Nat) : Int) from by rw [wrap_small (n := 1 + (body.deep : Int)) (by omega) (by omega)]; omega, imax, wrapS (by omega)]
      have := rdeep_loop rest (Q := Q) O2 (pre := pre.snoc op args kk body) (n := max n (1 + body.deep)) (cap := cap) (X.keep F2) (by rw [e3]; exact L.mono fun _ _ x => x.keep F2) (by rw [e3]; exact hl) (by omega) (by omega) (by
        have := hq.keep F2
        rw [← Nat.max_assoc] at this; exact this)
      rw [e3, e4] at this
      exact this
    · rw [if_neg (by simp [e]), Nat.zero_max] at hq
      rw [wrapS (by omega)]
      have := rdeep_loop rest (Q := Q) O (pre := pre.snoc op args kk body) (n := n) (cap := cap) X (by rw [e3]; exact L) (by rw [e3]; exact hl) hn (by omega) hq
      rw [e3, e4] at this
      exact this
theorem rdeep_ok (O : Own h μ ρ) {f : F} {a : Option Addr} {cap : Nat} (X : Ly ρ f a) (hs : f.size ≤ 1000000000) (hq : RdQ Q ρ (.int .i64 (f.deep : Int))) : EvQ P f_brickyardref13_Deep [.slice a f.len cap] h Q := by
  obtain ⟨c, v, l⟩ := X
  have := F.size_more f
  exact r_brickyardref13_Deep (rdeep_loop f O (pre := .nil) (n := 0) v l (show f.len ≤ _ by omega) (by omega) hs (by rw [Nat.zero_max]; exact hq))
theorem word_nil {op : Int} : wordM op = ⟨#[]⟩ ↔ ¬ (1 ≤ op ∧ op ≤ 12) := by
  constructor
  · intro h ⟨h1, h2⟩
    obtain ⟨k, rfl⟩ : ∃ k : Nat, op = k := ⟨op.toNat, by omega⟩
    have : ∀ k : Fin 13, 1 ≤ k.1 → wordM (k.1 : Int) ≠ ⟨#[]⟩ := by decide
    exact this ⟨k, by omega⟩ (by simp only; omega) h
  · intro h
    cases op with
    | negSucc _ => rfl
    | ofNat n =>
      show (kinds[n]?).getD e0 = _
      by_cases hn : n < 13
      · have : n = 0 := by
          have h : ¬ (1 ≤ (n : Int) ∧ (n : Int) ≤ 12) := h
          omega
        subst this
        rfl
      · rw [List.getElem?_eq_none (show kinds.length ≤ n by simp [kinds]; omega)]
        rfl
theorem one_loop : ∀ (rest : F) {h : AW} {μ : Paint} {ρ : Store} {Q : Value → AW → Prop}, Own h μ ρ → ∀ {pre : F} {a : Option Addr} {c : List Value} {cap : Nat}, Vw ρ [] a c → Lies (Vw ρ []) (pre.app rest) c → (pre.app rest).len ≤ 140737488355328 → rest.size ≤ 1000000000 →
    RdQ Q ρ (.bool rest.wf) → unitAt P f_brickyardref13_one 2 [0, 3] [.slice a (pre.app rest).len cap, .int .i64 (pre.len : Int)] h Q
  | .nil, h, μ, ρ, Q, O, pre, a, c, cap, X, L, hl, hs, hq => by
    refine r_brickyardref13_one_2 ?_
    rw [F.app_nil, geI (Nat.le_refl _)]
    simp only [oB_some, bC_true, bC_false, vInt_int, vBool_bool, vStr_string, vPtr_pointer, vSl_slice, vMap_map, vFun_func, vAgg_agg, vTup_tuple, vIfc_nil, vIfc_iface, lC_cons, lN_nil, aP_some, shO_none, shO_some, Option.isNone_none, Option.isNone_some, Bool.not_true, Bool.not_false]
    exact hq.now O
  | .cons op args kk body rest, hb, μ, ρb, Q, Ob, pre, a, c, cap, X, L, hl, hs, hq => by
    have hlt : pre.len < (pre.app (.cons op args kk body rest)).len := app_lt
    simp only [F.size] at hs
    have hbs := F.size_more body
    have hrs := F.size_more rest
    obtain ⟨e3, e4⟩ := snocs pre op args kk body
    have no : ∀ {h' : AW} {μ' : Paint} {ρ' : Store}, Own h' μ' ρ' → Fra [] ρb ρ' → F.wf (.cons op args kk body rest) = false → Q (.bool false) h' := fun O' F' e => by
      have := hq _ _ _ O' F'
      rw [e] at this; exact this
    refine r_brickyardref13_one_2 ?_
    rw [ltI hlt]
    simp only [oB_some, bC_true, bC_false, vInt_int, vBool_bool, vStr_string, vPtr_pointer, vSl_slice, vMap_map, vFun_func, vAgg_agg, vTup_tuple, vIfc_nil, vIfc_iface, lC_cons, lN_nil, aP_some, shO_none, shO_some, Option.isNone_none, Option.isNone_some, Bool.not_true, Bool.not_false]
    refine st_copy Ob X L rfl rfl fun h μ ρ c1 aa ac ba bc O W hc1 F1 va la => ?_
    repeat (first | refine ⟨rfl, ?_⟩ | refine ⟨trivial, ?_⟩ | simp only [oB_some, bC_true, bC_false, vInt_int, vBool_bool, vStr_string, vPtr_pointer, vSl_slice, vMap_map, vFun_func, vAgg_agg, vTup_tuple, vIfc_nil, vIfc_iface, lC_cons, lN_nil, aP_some, shO_none, shO_some, Option.isNone_none, Option.isNone_some, Bool.not_true, Bool.not_false] | refine w_rd (by assumption) (by assumption) 0 (by rfl) (by rfl) ?_ | refine w_wrL (by assumption) (by assumption) 0 (by rfl) (Nat.le_of_ble_eq_true (by rfl)) (by rfl) fun h ρz O W => ?_ | refine w_wr (by assumption) (by assumption) 0 (by rfl) (Nat.le_of_ble_eq_true (by rfl)) (by rfl) fun h ρz O W => ?_)
    refine rWord_ok ?_
    simp only [oB_some, bC_true, bC_false, vInt_int, vBool_bool, vStr_string, vPtr_pointer, vSl_slice, vMap_map, vFun_func, vAgg_agg, vTup_tuple, vIfc_nil, vIfc_iface, lC_cons, lN_nil, aP_some, shO_none, shO_some, Option.isNone_none, Option.isNone_some, Bool.not_true, Bool.not_false]
    refine bC_iff (fun e => no O F1 ?_) (fun x1 => ?_)
    · have e := word_nil.1 (bEq_iff.1 e)
      have : (decide (1 ≤ op) && decide (op ≤ 12)) = false := by
        rw [Bool.and_eq_false_iff, decide_eq_false_iff_not, decide_eq_false_iff_not]; omega
      simp only [F.wf, F.fine, this, Bool.false_and]
    have x1 : 1 ≤ op ∧ op ≤ 12 := by
      by_cases x : 1 ≤ op ∧ op ≤ 12
      · exact x
      · exact absurd (word_nil.2 x) (bEq_false.1 x1)
    repeat (first | refine ⟨rfl, ?_⟩ | refine ⟨trivial, ?_⟩ | simp only [oB_some, bC_true, bC_false, vInt_int, vBool_bool, vStr_string, vPtr_pointer, vSl_slice, vMap_map, vFun_func, vAgg_agg, vTup_tuple, vIfc_nil, vIfc_iface, lC_cons, lN_nil, aP_some, shO_none, shO_some, Option.isNone_none, Option.isNone_some, Bool.not_true, Bool.not_false] | refine w_rd (by assumption) (by assumption) 0 (by rfl) (by rfl) ?_ | refine w_wrL (by assumption) (by assumption) 0 (by rfl) (Nat.le_of_ble_eq_true (by rfl)) (by rfl) fun h ρz O W => ?_ | refine w_wr (by assumption) (by assumption) 0 (by rfl) (Nat.le_of_ble_eq_true (by rfl)) (by rfl) fun h ρz O W => ?_)
    refine rArgs_ok ?_
    simp only [oB_some, bC_true, bC_false, vInt_int, vBool_bool, vStr_string, vPtr_pointer, vSl_slice, vMap_map, vFun_func, vAgg_agg, vTup_tuple, vIfc_nil, vIfc_iface, lC_cons, lN_nil, aP_some, shO_none, shO_some, Option.isNone_none, Option.isNone_some, Bool.not_true, Bool.not_false]
    refine bC_iff (fun x2 => ?_) (fun x2 => ?_)
    · have x2 := of_decide_eq_true x2
      repeat (first | refine ⟨rfl, ?_⟩ | refine ⟨trivial, ?_⟩ | simp only [oB_some, bC_true, bC_false, vInt_int, vBool_bool, vStr_string, vPtr_pointer, vSl_slice, vMap_map, vFun_func, vAgg_agg, vTup_tuple, vIfc_nil, vIfc_iface, lC_cons, lN_nil, aP_some, shO_none, shO_some, Option.isNone_none, Option.isNone_some, Bool.not_true, Bool.not_false] | refine w_rd (by assumption) (by assumption) 0 (by rfl) (by rfl) ?_ | refine w_wrL (by assumption) (by assumption) 0 (by rfl) (Nat.le_of_ble_eq_true (by rfl)) (by rfl) fun h ρz O W => ?_ | refine w_wr (by assumption) (by assumption) 0 (by rfl) (Nat.le_of_ble_eq_true (by rfl)) (by rfl) fun h ρz O W => ?_)
      refine rArgs_ok ?_
      repeat (first | refine ⟨rfl, ?_⟩ | refine ⟨trivial, ?_⟩ | simp only [oB_some, bC_true, bC_false, vInt_int, vBool_bool, vStr_string, vPtr_pointer, vSl_slice, vMap_map, vFun_func, vAgg_agg, vTup_tuple, vIfc_nil, vIfc_iface, lC_cons, lN_nil, aP_some, shO_none, shO_some, Option.isNone_none, Option.isNone_some, Bool.not_true, Bool.not_false] | refine w_rd (by assumption) (by assumption) 0 (by rfl) (by rfl) ?_ | refine w_wrL (by assumption) (by assumption) 0 (by rfl) (Nat.le_of_ble_eq_true (by rfl)) (by rfl) fun h ρz O W => ?_ | refine w_wr (by assumption) (by assumption) 0 (by rfl) (Nat.le_of_ble_eq_true (by rfl)) (by rfl) fun h ρz O W => ?_)
      refine bC_iff (fun e => ?_) (fun e => ?_)
      · have e : argsM op ≠ args.length := by simpa using e
        repeat (first | refine ⟨rfl, ?_⟩ | refine ⟨trivial, ?_⟩ | simp only [oB_some, bC_true, bC_false, vInt_int, vBool_bool, vStr_string, vPtr_pointer, vSl_slice, vMap_map, vFun_func, vAgg_agg, vTup_tuple, vIfc_nil, vIfc_iface, lC_cons, lN_nil, aP_some, shO_none, shO_some, Option.isNone_none, Option.isNone_some, Bool.not_true, Bool.not_false] | refine w_rd (by assumption) (by assumption) 0 (by rfl) (by rfl) ?_ | refine w_wrL (by assumption) (by assumption) 0 (by rfl) (Nat.le_of_ble_eq_true (by rfl)) (by rfl) fun h ρz O W => ?_ | refine w_wr (by assumption) (by assumption) 0 (by rfl) (Nat.le_of_ble_eq_true (by rfl)) (by rfl) fun h ρz O W => ?_)
        have : fitsM op args.length = false := by
          unfold fitsM
          rw [decide_eq_false (show ¬ argsM op < 0 by omega), decide_eq_false e]; rfl
        exact no O F1 (by simp only [F.wf, F.fine, this, Bool.false_and, Bool.and_false])
      · have e : argsM op = args.length := by simpa using e
        have x3 : fitsM op args.length = true := by
          unfold fitsM
          rw [decide_eq_true e, Bool.or_true]
        repeat (first | refine ⟨rfl, ?_⟩ | refine ⟨trivial, ?_⟩ | simp only [oB_some, bC_true, bC_false, vInt_int, vBool_bool, vStr_string, vPtr_pointer, vSl_slice, vMap_map, vFun_func, vAgg_agg, vTup_tuple, vIfc_nil, vIfc_iface, lC_cons, lN_nil, aP_some, shO_none, shO_some, Option.isNone_none, Option.isNone_some, Bool.not_true, Bool.not_false] | refine w_rd (by assumption) (by assumption) 0 (by rfl) (by rfl) ?_ | refine w_wrL (by assumption) (by assumption) 0 (by rfl) (Nat.le_of_ble_eq_true (by rfl)) (by rfl) fun h ρz O W => ?_ | refine w_wr (by assumption) (by assumption) 0 (by rfl) (Nat.le_of_ble_eq_true (by rfl)) (by rfl) fun h ρz O W => ?_)
        refine bC_iff (fun e => ?_) (fun x4 => ?_)
        · have e := of_decide_eq_true e
          repeat (first | refine ⟨rfl, ?_⟩ | refine ⟨trivial, ?_⟩ | simp only [oB_some, bC_true, bC_false, vInt_int, vBool_bool, vStr_string, vPtr_pointer, vSl_slice, vMap_map, vFun_func, vAgg_agg, vTup_tuple, vIfc_nil, vIfc_iface, lC_cons, lN_nil, aP_some, shO_none, shO_some, Option.isNone_none, Option.isNone_some, Bool.not_true, Bool.not_false] | refine w_rd (by assumption) (by assumption) 0 (by rfl) (by rfl) ?_ | refine w_wrL (by assumption) (by assumption) 0 (by rfl) (Nat.le_of_ble_eq_true (by rfl)) (by rfl) fun h ρz O W => ?_ | refine w_wr (by assumption) (by assumption) 0 (by rfl) (Nat.le_of_ble_eq_true (by rfl)) (by rfl) fun h ρz O W => ?_)
          exact no O F1 (by simp only [F.wf, F.fine, decide_eq_false (show ¬ 0 ≤ kk by omega), Bool.false_and, Bool.and_false])
        have x4 := of_decide_eq_false x4
        repeat (first | refine ⟨rfl, ?_⟩ | refine ⟨trivial, ?_⟩ | simp only [oB_some, bC_true, bC_false, vInt_int, vBool_bool, vStr_string, vPtr_pointer, vSl_slice, vMap_map, vFun_func, vAgg_agg, vTup_tuple, vIfc_nil, vIfc_iface, lC_cons, lN_nil, aP_some, shO_none, shO_some, Option.isNone_none, Option.isNone_some, Bool.not_true, Bool.not_false] | refine w_rd (by assumption) (by assumption) 0 (by rfl) (by rfl) ?_ | refine w_wrL (by assumption) (by assumption) 0 (by rfl) (Nat.le_of_ble_eq_true (by rfl)) (by rfl) fun h ρz O W => ?_ | refine w_wr (by assumption) (by assumption) 0 (by rfl) (Nat.le_of_ble_eq_true (by rfl)) (by rfl) fun h ρz O W => ?_)
        refine bC_iff (fun e => ?_) (fun x5 => ?_)
        · have e := of_decide_eq_true e
          repeat (first | refine ⟨rfl, ?_⟩ | refine ⟨trivial, ?_⟩ | simp only [oB_some, bC_true, bC_false, vInt_int, vBool_bool, vStr_string, vPtr_pointer, vSl_slice, vMap_map, vFun_func, vAgg_agg, vTup_tuple, vIfc_nil, vIfc_iface, lC_cons, lN_nil, aP_some, shO_none, shO_some, Option.isNone_none, Option.isNone_some, Bool.not_true, Bool.not_false] | refine w_rd (by assumption) (by assumption) 0 (by rfl) (by rfl) ?_ | refine w_wrL (by assumption) (by assumption) 0 (by rfl) (Nat.le_of_ble_eq_true (by rfl)) (by rfl) fun h ρz O W => ?_ | refine w_wr (by assumption) (by assumption) 0 (by rfl) (Nat.le_of_ble_eq_true (by rfl)) (by rfl) fun h ρz O W => ?_)
          exact no O F1 (by simp only [F.wf, F.fine, decide_eq_false (show ¬ kk ≤ 1000 by omega), Bool.false_and, Bool.and_false])
        have x5 := of_decide_eq_false x5
        have base : (decide (1 ≤ op) && decide (op ≤ 12) && fitsM op args.length && decide (0 ≤ kk) && decide (kk ≤ 1000)) = true := by
          rw [decide_eq_true (show 1 ≤ op by omega), decide_eq_true (show op ≤ 12 by omega), x3, decide_eq_true (show 0 ≤ kk by omega), decide_eq_true (show kk ≤ 1000 by omega)]; rfl
        repeat (first | refine ⟨rfl, ?_⟩ | refine ⟨trivial, ?_⟩ | simp only [oB_some, bC_true, bC_false, vInt_int, vBool_bool, vStr_string, vPtr_pointer, vSl_slice, vMap_map, vFun_func, vAgg_agg, vTup_tuple, vIfc_nil, vIfc_iface, lC_cons, lN_nil, aP_some, shO_none, shO_some, Option.isNone_none, Option.isNone_some, Bool.not_true, Bool.not_false] | refine w_rd (by assumption) (by assumption) 0 (by rfl) (by rfl) ?_ | refine w_wrL (by assumption) (by assumption) 0 (by rfl) (Nat.le_of_ble_eq_true (by rfl)) (by rfl) fun h ρz O W => ?_ | refine w_wr (by assumption) (by assumption) 0 (by rfl) (Nat.le_of_ble_eq_true (by rfl)) (by rfl) fun h ρz O W => ?_)
        refine bC_iff (fun e => ?_) (fun e => ?_)
        · have e : op ≠ 10 := by simpa using e
          repeat (first | refine ⟨rfl, ?_⟩ | refine ⟨trivial, ?_⟩ | simp only [oB_some, bC_true, bC_false, vInt_int, vBool_bool, vStr_string, vPtr_pointer, vSl_slice, vMap_map, vFun_func, vAgg_agg, vTup_tuple, vIfc_nil, vIfc_iface, lC_cons, lN_nil, aP_some, shO_none, shO_some, Option.isNone_none, Option.isNone_some, Bool.not_true, Bool.not_false] | refine w_rd (by assumption) (by assumption) 0 (by rfl) (by rfl) ?_ | refine w_wrL (by assumption) (by assumption) 0 (by rfl) (Nat.le_of_ble_eq_true (by rfl)) (by rfl) fun h ρz O W => ?_ | refine w_wr (by assumption) (by assumption) 0 (by rfl) (Nat.le_of_ble_eq_true (by rfl)) (by rfl) fun h ρz O W => ?_)
          refine bC_iff (fun e2 => ?_) (fun e2 => ?_)
          · have e2 : kk ≠ 0 := by simpa using e2
            repeat (first | refine ⟨rfl, ?_⟩ | refine ⟨trivial, ?_⟩ | simp only [oB_some, bC_true, bC_false, vInt_int, vBool_bool, vStr_string, vPtr_pointer, vSl_slice, vMap_map, vFun_func, vAgg_agg, vTup_tuple, vIfc_nil, vIfc_iface, lC_cons, lN_nil, aP_some, shO_none, shO_some, Option.isNone_none, Option.isNone_some, Bool.not_true, Bool.not_false] | refine w_rd (by assumption) (by assumption) 0 (by rfl) (by rfl) ?_ | refine w_wrL (by assumption) (by assumption) 0 (by rfl) (Nat.le_of_ble_eq_true (by rfl)) (by rfl) fun h ρz O W => ?_ | refine w_wr (by assumption) (by assumption) 0 (by rfl) (Nat.le_of_ble_eq_true (by rfl)) (by rfl) fun h ρz O W => ?_)
            exact no O F1 (by simp only [F.wf, F.fine, decide_eq_false e2, decide_eq_false e, Bool.or_self, Bool.and_false, Bool.false_and])
          · have e2 : kk = 0 := by simpa using e2
            have hf : F.fine op args.length kk = true := by unfold F.fine; rw [base, decide_eq_true e2, Bool.true_or]; rfl
            repeat (first | refine ⟨rfl, ?_⟩ | refine ⟨trivial, ?_⟩ | simp only [oB_some, bC_true, bC_false, vInt_int, vBool_bool, vStr_string, vPtr_pointer, vSl_slice, vMap_map, vFun_func, vAgg_agg, vTup_tuple, vIfc_nil, vIfc_iface, lC_cons, lN_nil, aP_some, shO_none, shO_some, Option.isNone_none, Option.isNone_some, Bool.not_true, Bool.not_false] | refine w_rd (by assumption) (by assumption) 0 (by rfl) (by rfl) ?_ | refine w_wrL (by assumption) (by assumption) 0 (by rfl) (Nat.le_of_ble_eq_true (by rfl)) (by rfl) fun h ρz O W => ?_ | refine w_wr (by assumption) (by assumption) 0 (by rfl) (Nat.le_of_ble_eq_true (by rfl)) (by rfl) fun h ρz O W => ?_)
            refine rOpens_ok ?_
            simp only [oB_some, bC_true, bC_false, vInt_int, vBool_bool, vStr_string, vPtr_pointer, vSl_slice, vMap_map, vFun_func, vAgg_agg, vTup_tuple, vIfc_nil, vIfc_iface, lC_cons, lN_nil, aP_some, shO_none, shO_some, Option.isNone_none, Option.isNone_some, Bool.not_true, Bool.not_false]
            refine bC_iff (fun ho => ?_) (fun ho => ?_)
            · have ho := nb ho
              repeat (first | refine ⟨rfl, ?_⟩ | refine ⟨trivial, ?_⟩ | simp only [oB_some, bC_true, bC_false, vInt_int, vBool_bool, vStr_string, vPtr_pointer, vSl_slice, vMap_map, vFun_func, vAgg_agg, vTup_tuple, vIfc_nil, vIfc_iface, lC_cons, lN_nil, aP_some, shO_none, shO_some, Option.isNone_none, Option.isNone_some, Bool.not_true, Bool.not_false] | refine w_rd (by assumption) (by assumption) 0 (by rfl) (by rfl) ?_ | refine w_wrL (by assumption) (by assumption) 0 (by rfl) (Nat.le_of_ble_eq_true (by rfl)) (by rfl) fun h ρz O W => ?_ | refine w_wr (by assumption) (by assumption) 0 (by rfl) (Nat.le_of_ble_eq_true (by rfl)) (by rfl) fun h ρz O W => ?_)
              refine bC_iff (fun e => ?_) (fun e => ?_)
              · have e : body.len ≠ 0 := by have := of_decide_eq_true e; omega
                repeat (first | refine ⟨rfl, ?_⟩ | refine ⟨trivial, ?_⟩ | simp only [oB_some, bC_true, bC_false, vInt_int, vBool_bool, vStr_string, vPtr_pointer, vSl_slice, vMap_map, vFun_func, vAgg_agg, vTup_tuple, vIfc_nil, vIfc_iface, lC_cons, lN_nil, aP_some, shO_none, shO_some, Option.isNone_none, Option.isNone_some, Bool.not_true, Bool.not_false] | refine w_rd (by assumption) (by assumption) 0 (by rfl) (by rfl) ?_ | refine w_wrL (by assumption) (by assumption) 0 (by rfl) (Nat.le_of_ble_eq_true (by rfl)) (by rfl) fun h ρz O W => ?_ | refine w_wr (by assumption) (by assumption) 0 (by rfl) (Nat.le_of_ble_eq_true (by rfl)) (by rfl) fun h ρz O W => ?_)
                exact no O F1 (by simp only [F.wf, ho, decide_eq_false e, Bool.or_false, Bool.and_false, Bool.false_and])
              · have e : body.len = 0 := by have := of_decide_eq_false e; omega
                have f3 : (opensM op || decide (body.len = 0)) = true := by rw [decide_eq_true e, Bool.or_true]
                repeat (first | refine ⟨rfl, ?_⟩ | refine ⟨trivial, ?_⟩ | simp only [oB_some, bC_true, bC_false, vInt_int, vBool_bool, vStr_string, vPtr_pointer, vSl_slice, vMap_map, vFun_func, vAgg_agg, vTup_tuple, vIfc_nil, vIfc_iface, lC_cons, lN_nil, aP_some, shO_none, shO_some, Option.isNone_none, Option.isNone_some, Bool.not_true, Bool.not_false] | refine w_rd (by assumption) (by assumption) 0 (by rfl) (by rfl) ?_ | refine w_wrL (by assumption) (by assumption) 0 (by rfl) (Nat.le_of_ble_eq_true (by rfl)) (by rfl) fun h ρz O W => ?_ | refine w_wr (by assumption) (by assumption) 0 (by rfl) (Nat.le_of_ble_eq_true (by rfl)) (by rfl) fun h ρz O W => ?_)
                obtain ⟨bcells, v2, l2⟩ := la
                refine r_brickyardref13_one ?_
                refine one_loop body O (pre := .nil) v2 l2 (show body.len ≤ _ by omega) (by omega) fun h2 μ2 ρ2 O2 F2 => ?_
                have F12 := F1.trans F2
                repeat (first | refine ⟨rfl, ?_⟩ | refine ⟨trivial, ?_⟩ | simp only [oB_some, bC_true, bC_false, vInt_int, vBool_bool, vStr_string, vPtr_pointer, vSl_slice, vMap_map, vFun_func, vAgg_agg, vTup_tuple, vIfc_nil, vIfc_iface, lC_cons, lN_nil, aP_some, shO_none, shO_some, Option.isNone_none, Option.isNone_some, Bool.not_true, Bool.not_false] | refine w_rd (by assumption) (by assumption) 0 (by rfl) (by rfl) ?_ | refine w_wrL (by assumption) (by assumption) 0 (by rfl) (Nat.le_of_ble_eq_true (by rfl)) (by rfl) fun h ρz O W => ?_ | refine w_wr (by assumption) (by assumption) 0 (by rfl) (Nat.le_of_ble_eq_true (by rfl)) (by rfl) fun h ρz O W => ?_)
                refine bC_iff (fun e => no O2 F12 ?_) (fun e => ?_)
                · simp only [F.wf, nb e, Bool.false_and, Bool.and_false]
                have e := nb' e
                rw [wrapS (by omega)]
                have := one_loop rest (Q := Q) O2 (pre := pre.snoc op args kk body) (cap := cap) (X.keep F12) (by rw [e3]; exact L.mono fun _ _ x => x.keep F12) (by rw [e3]; exact hl) (by omega) (by
                  have := hq.keep F12
                  simp only [F.wf, hf, f3, e, Bool.true_and] at this
                  exact this)
                rw [e3, e4] at this
                exact this
            · have f3 : (opensM op || decide (body.len = 0)) = true := by rw [nb' ho]; rfl
              repeat (first | refine ⟨rfl, ?_⟩ | refine ⟨trivial, ?_⟩ | simp only [oB_some, bC_true, bC_false, vInt_int, vBool_bool, vStr_string, vPtr_pointer, vSl_slice, vMap_map, vFun_func, vAgg_agg, vTup_tuple, vIfc_nil, vIfc_iface, lC_cons, lN_nil, aP_some, shO_none, shO_some, Option.isNone_none, Option.isNone_some, Bool.not_true, Bool.not_false] | refine w_rd (by assumption) (by assumption) 0 (by rfl) (by rfl) ?_ | refine w_wrL (by assumption) (by assumption) 0 (by rfl) (Nat.le_of_ble_eq_true (by rfl)) (by rfl) fun h ρz O W => ?_ | refine w_wr (by assumption) (by assumption) 0 (by rfl) (Nat.le_of_ble_eq_true (by rfl)) (by rfl) fun h ρz O W => ?_)
              obtain ⟨bcells, v2, l2⟩ := la
              refine r_brickyardref13_one ?_
              refine one_loop body O (pre := .nil) v2 l2 (show body.len ≤ _ by omega) (by omega) fun h2 μ2 ρ2 O2 F2 => ?_
              have F12 := F1.trans F2
              repeat (first | refine ⟨rfl, ?_⟩ | refine ⟨trivial, ?_⟩ | simp only [oB_some, bC_true, bC_false, vInt_int, vBool_bool, vStr_string, vPtr_pointer, vSl_slice, vMap_map, vFun_func, vAgg_agg, vTup_tuple, vIfc_nil, vIfc_iface, lC_cons, lN_nil, aP_some, shO_none, shO_some, Option.isNone_none, Option.isNone_some, Bool.not_true, Bool.not_false] | refine w_rd (by assumption) (by assumption) 0 (by rfl) (by rfl) ?_ | refine w_wrL (by assumption) (by assumption) 0 (by rfl) (Nat.le_of_ble_eq_true (by rfl)) (by rfl) fun h ρz O W => ?_ | refine w_wr (by assumption) (by assumption) 0 (by rfl) (Nat.le_of_ble_eq_true (by rfl)) (by rfl) fun h ρz O W => ?_)
              refine bC_iff (fun e => no O2 F12 ?_) (fun e => ?_)
              · simp only [F.wf, nb e, Bool.false_and, Bool.and_false]
              have e := nb' e
              rw [wrapS (by omega)]
              have := one_loop rest (Q := Q) O2 (pre := pre.snoc op args kk body) (cap := cap) (X.keep F12) (by rw [e3]; exact L.mono fun _ _ x => x.keep F12) (by rw [e3]; exact hl) (by omega) (by
                have := hq.keep F12
                simp only [F.wf, hf, f3, e, Bool.true_and] at this
                exact this)
              rw [e3, e4] at this
              exact this
        · have e : op = 10 := by simpa using e
          have hf : F.fine op args.length kk = true := by unfold F.fine; rw [base, decide_eq_true e, Bool.or_true]; rfl
          repeat (first | refine ⟨rfl, ?_⟩ | refine ⟨trivial, ?_⟩ | simp only [oB_some, bC_true, bC_false, vInt_int, vBool_bool, vStr_string, vPtr_pointer, vSl_slice, vMap_map, vFun_func, vAgg_agg, vTup_tuple, vIfc_nil, vIfc_iface, lC_cons, lN_nil, aP_some, shO_none, shO_some, Option.isNone_none, Option.isNone_some, Bool.not_true, Bool.not_false] | refine w_rd (by assumption) (by assumption) 0 (by rfl) (by rfl) ?_ | refine w_wrL (by assumption) (by assumption) 0 (by rfl) (Nat.le_of_ble_eq_true (by rfl)) (by rfl) fun h ρz O W => ?_ | refine w_wr (by assumption) (by assumption) 0 (by rfl) (Nat.le_of_ble_eq_true (by rfl)) (by rfl) fun h ρz O W => ?_)
          refine rOpens_ok ?_
          simp only [oB_some, bC_true, bC_false, vInt_int, vBool_bool, vStr_string, vPtr_pointer, vSl_slice, vMap_map, vFun_func, vAgg_agg, vTup_tuple, vIfc_nil, vIfc_iface, lC_cons, lN_nil, aP_some, shO_none, shO_some, Option.isNone_none, Option.isNone_some, Bool.not_true, Bool.not_false]
          refine bC_iff (fun ho => ?_) (fun ho => ?_)
          · have ho := nb ho
            repeat (first | refine ⟨rfl, ?_⟩ | refine ⟨trivial, ?_⟩ | simp only [oB_some, bC_true, bC_false, vInt_int, vBool_bool, vStr_string, vPtr_pointer, vSl_slice, vMap_map, vFun_func, vAgg_agg, vTup_tuple, vIfc_nil, vIfc_iface, lC_cons, lN_nil, aP_some, shO_none, shO_some, Option.isNone_none, Option.isNone_some, Bool.not_true, Bool.not_false] | refine w_rd (by assumption) (by assumption) 0 (by rfl) (by rfl) ?_ | refine w_wrL (by assumption) (by assumption) 0 (by rfl) (Nat.le_of_ble_eq_true (by rfl)) (by rfl) fun h ρz O W => ?_ | refine w_wr (by assumption) (by assumption) 0 (by rfl) (Nat.le_of_ble_eq_true (by rfl)) (by rfl) fun h ρz O W => ?_)
            refine bC_iff (fun e => ?_) (fun e => ?_)
            · have e : body.len ≠ 0 := by have := of_decide_eq_true e; omega
              repeat (first | refine ⟨rfl, ?_⟩ | refine ⟨trivial, ?_⟩ | simp only [oB_some, bC_true, bC_false, vInt_int, vBool_bool, vStr_string, vPtr_pointer, vSl_slice, vMap_map, vFun_func, vAgg_agg, vTup_tuple, vIfc_nil, vIfc_iface, lC_cons, lN_nil, aP_some, shO_none, shO_some, Option.isNone_none, Option.isNone_some, Bool.not_true, Bool.not_false] | refine w_rd (by assumption) (by assumption) 0 (by rfl) (by rfl) ?_ | refine w_wrL (by assumption) (by assumption) 0 (by rfl) (Nat.le_of_ble_eq_true (by rfl)) (by rfl) fun h ρz O W => ?_ | refine w_wr (by assumption) (by assumption) 0 (by rfl) (Nat.le_of_ble_eq_true (by rfl)) (by rfl) fun h ρz O W => ?_)
              exact no O F1 (by simp only [F.wf, ho, decide_eq_false e, Bool.or_false, Bool.and_false, Bool.false_and])
            · have e : body.len = 0 := by have := of_decide_eq_false e; omega
              have f3 : (opensM op || decide (body.len = 0)) = true := by rw [decide_eq_true e, Bool.or_true]
              repeat (first | refine ⟨rfl, ?_⟩ | refine ⟨trivial, ?_⟩ | simp only [oB_some, bC_true, bC_false, vInt_int, vBool_bool, vStr_string, vPtr_pointer, vSl_slice, vMap_map, vFun_func, vAgg_agg, vTup_tuple, vIfc_nil, vIfc_iface, lC_cons, lN_nil, aP_some, shO_none, shO_some, Option.isNone_none, Option.isNone_some, Bool.not_true, Bool.not_false] | refine w_rd (by assumption) (by assumption) 0 (by rfl) (by rfl) ?_ | refine w_wrL (by assumption) (by assumption) 0 (by rfl) (Nat.le_of_ble_eq_true (by rfl)) (by rfl) fun h ρz O W => ?_ | refine w_wr (by assumption) (by assumption) 0 (by rfl) (Nat.le_of_ble_eq_true (by rfl)) (by rfl) fun h ρz O W => ?_)
              obtain ⟨bcells, v2, l2⟩ := la
              refine r_brickyardref13_one ?_
              refine one_loop body O (pre := .nil) v2 l2 (show body.len ≤ _ by omega) (by omega) fun h2 μ2 ρ2 O2 F2 => ?_
              have F12 := F1.trans F2
              repeat (first | refine ⟨rfl, ?_⟩ | refine ⟨trivial, ?_⟩ | simp only [oB_some, bC_true, bC_false, vInt_int, vBool_bool, vStr_string, vPtr_pointer, vSl_slice, vMap_map, vFun_func, vAgg_agg, vTup_tuple, vIfc_nil, vIfc_iface, lC_cons, lN_nil, aP_some, shO_none, shO_some, Option.isNone_none, Option.isNone_some, Bool.not_true, Bool.not_false] | refine w_rd (by assumption) (by assumption) 0 (by rfl) (by rfl) ?_ | refine w_wrL (by assumption) (by assumption) 0 (by rfl) (Nat.le_of_ble_eq_true (by rfl)) (by rfl) fun h ρz O W => ?_ | refine w_wr (by assumption) (by assumption) 0 (by rfl) (Nat.le_of_ble_eq_true (by rfl)) (by rfl) fun h ρz O W => ?_)
              refine bC_iff (fun e => no O2 F12 ?_) (fun e => ?_)
              · simp only [F.wf, nb e, Bool.false_and, Bool.and_false]
              have e := nb' e
              rw [wrapS (by omega)]
              have := one_loop rest (Q := Q) O2 (pre := pre.snoc op args kk body) (cap := cap) (X.keep F12) (by rw [e3]; exact L.mono fun _ _ x => x.keep F12) (by rw [e3]; exact hl) (by omega) (by
                have := hq.keep F12
                simp only [F.wf, hf, f3, e, Bool.true_and] at this
                exact this)
              rw [e3, e4] at this
              exact this
          · have f3 : (opensM op || decide (body.len = 0)) = true := by rw [nb' ho]; rfl
            repeat (first | refine ⟨rfl, ?_⟩ | refine ⟨trivial, ?_⟩ | simp only [oB_some, bC_true, bC_false, vInt_int, vBool_bool, vStr_string, vPtr_pointer, vSl_slice, vMap_map, vFun_func, vAgg_agg, vTup_tuple, vIfc_nil, vIfc_iface, lC_cons, lN_nil, aP_some, shO_none, shO_some, Option.isNone_none, Option.isNone_some, Bool.not_true, Bool.not_false] | refine w_rd (by assumption) (by assumption) 0 (by rfl) (by rfl) ?_ | refine w_wrL (by assumption) (by assumption) 0 (by rfl) (Nat.le_of_ble_eq_true (by rfl)) (by rfl) fun h ρz O W => ?_ | refine w_wr (by assumption) (by assumption) 0 (by rfl) (Nat.le_of_ble_eq_true (by rfl)) (by rfl) fun h ρz O W => ?_)
            obtain ⟨bcells, v2, l2⟩ := la
            refine r_brickyardref13_one ?_
            refine one_loop body O (pre := .nil) v2 l2 (show body.len ≤ _ by omega) (by omega) fun h2 μ2 ρ2 O2 F2 => ?_
            have F12 := F1.trans F2
            repeat (first | refine ⟨rfl, ?_⟩ | refine ⟨trivial, ?_⟩ | simp only [oB_some, bC_true, bC_false, vInt_int, vBool_bool, vStr_string, vPtr_pointer, vSl_slice, vMap_map, vFun_func, vAgg_agg, vTup_tuple, vIfc_nil, vIfc_iface, lC_cons, lN_nil, aP_some, shO_none, shO_some, Option.isNone_none, Option.isNone_some, Bool.not_true, Bool.not_false] | refine w_rd (by assumption) (by assumption) 0 (by rfl) (by rfl) ?_ | refine w_wrL (by assumption) (by assumption) 0 (by rfl) (Nat.le_of_ble_eq_true (by rfl)) (by rfl) fun h ρz O W => ?_ | refine w_wr (by assumption) (by assumption) 0 (by rfl) (Nat.le_of_ble_eq_true (by rfl)) (by rfl) fun h ρz O W => ?_)
            refine bC_iff (fun e => no O2 F12 ?_) (fun e => ?_)
            · simp only [F.wf, nb e, Bool.false_and, Bool.and_false]
            have e := nb' e
            rw [wrapS (by omega)]
            have := one_loop rest (Q := Q) O2 (pre := pre.snoc op args kk body) (cap := cap) (X.keep F12) (by rw [e3]; exact L.mono fun _ _ x => x.keep F12) (by rw [e3]; exact hl) (by omega) (by
              have := hq.keep F12
              simp only [F.wf, hf, f3, e, Bool.true_and] at this
              exact this)
            rw [e3, e4] at this
            exact this
    · have x2 := of_decide_eq_false x2
      have x3 : fitsM op args.length = true := by
        unfold fitsM
        rw [decide_eq_true (show argsM op < 0 by omega), Bool.true_or]
      repeat (first | refine ⟨rfl, ?_⟩ | refine ⟨trivial, ?_⟩ | simp only [oB_some, bC_true, bC_false, vInt_int, vBool_bool, vStr_string, vPtr_pointer, vSl_slice, vMap_map, vFun_func, vAgg_agg, vTup_tuple, vIfc_nil, vIfc_iface, lC_cons, lN_nil, aP_some, shO_none, shO_some, Option.isNone_none, Option.isNone_some, Bool.not_true, Bool.not_false] | refine w_rd (by assumption) (by assumption) 0 (by rfl) (by rfl) ?_ | refine w_wrL (by assumption) (by assumption) 0 (by rfl) (Nat.le_of_ble_eq_true (by rfl)) (by rfl) fun h ρz O W => ?_ | refine w_wr (by assumption) (by assumption) 0 (by rfl) (Nat.le_of_ble_eq_true (by rfl)) (by rfl) fun h ρz O W => ?_)
      refine bC_iff (fun e => ?_) (fun x4 => ?_)
      · have e := of_decide_eq_true e
        repeat (first | refine ⟨rfl, ?_⟩ | refine ⟨trivial, ?_⟩ | simp only [oB_some, bC_true, bC_false, vInt_int, vBool_bool, vStr_string, vPtr_pointer, vSl_slice, vMap_map, vFun_func, vAgg_agg, vTup_tuple, vIfc_nil, vIfc_iface, lC_cons, lN_nil, aP_some, shO_none, shO_some, Option.isNone_none, Option.isNone_some, Bool.not_true, Bool.not_false] | refine w_rd (by assumption) (by assumption) 0 (by rfl) (by rfl) ?_ | refine w_wrL (by assumption) (by assumption) 0 (by rfl) (Nat.le_of_ble_eq_true (by rfl)) (by rfl) fun h ρz O W => ?_ | refine w_wr (by assumption) (by assumption) 0 (by rfl) (Nat.le_of_ble_eq_true (by rfl)) (by rfl) fun h ρz O W => ?_)
        exact no O F1 (by simp only [F.wf, F.fine, decide_eq_false (show ¬ 0 ≤ kk by omega), Bool.false_and, Bool.and_false])
      have x4 := of_decide_eq_false x4
      repeat (first | refine ⟨rfl, ?_⟩ | refine ⟨trivial, ?_⟩ | simp only [oB_some, bC_true, bC_false, vInt_int, vBool_bool, vStr_string, vPtr_pointer, vSl_slice, vMap_map, vFun_func, vAgg_agg, vTup_tuple, vIfc_nil, vIfc_iface, lC_cons, lN_nil, aP_some, shO_none, shO_some, Option.isNone_none, Option.isNone_some, Bool.not_true, Bool.not_false] | refine w_rd (by assumption) (by assumption) 0 (by rfl) (by rfl) ?_ | refine w_wrL (by assumption) (by assumption) 0 (by rfl) (Nat.le_of_ble_eq_true (by rfl)) (by rfl) fun h ρz O W => ?_ | refine w_wr (by assumption) (by assumption) 0 (by rfl) (Nat.le_of_ble_eq_true (by rfl)) (by rfl) fun h ρz O W => ?_)
      refine bC_iff (fun e => ?_) (fun x5 => ?_)
      · have e := of_decide_eq_true e
        repeat (first | refine ⟨rfl, ?_⟩ | refine ⟨trivial, ?_⟩ | simp only [oB_some, bC_true, bC_false, vInt_int, vBool_bool, vStr_string, vPtr_pointer, vSl_slice, vMap_map, vFun_func, vAgg_agg, vTup_tuple, vIfc_nil, vIfc_iface, lC_cons, lN_nil, aP_some, shO_none, shO_some, Option.isNone_none, Option.isNone_some, Bool.not_true, Bool.not_false] | refine w_rd (by assumption) (by assumption) 0 (by rfl) (by rfl) ?_ | refine w_wrL (by assumption) (by assumption) 0 (by rfl) (Nat.le_of_ble_eq_true (by rfl)) (by rfl) fun h ρz O W => ?_ | refine w_wr (by assumption) (by assumption) 0 (by rfl) (Nat.le_of_ble_eq_true (by rfl)) (by rfl) fun h ρz O W => ?_)
        exact no O F1 (by simp only [F.wf, F.fine, decide_eq_false (show ¬ kk ≤ 1000 by omega), Bool.false_and, Bool.and_false])
      have x5 := of_decide_eq_false x5
      have base : (decide (1 ≤ op) && decide (op ≤ 12) && fitsM op args.length && decide (0 ≤ kk) && decide (kk ≤ 1000)) = true := by
        rw [decide_eq_true (show 1 ≤ op by omega), decide_eq_true (show op ≤ 12 by omega), x3, decide_eq_true (show 0 ≤ kk by omega), decide_eq_true (show kk ≤ 1000 by omega)]; rfl
      repeat (first | refine ⟨rfl, ?_⟩ | refine ⟨trivial, ?_⟩ | simp only [oB_some, bC_true, bC_false, vInt_int, vBool_bool, vStr_string, vPtr_pointer, vSl_slice, vMap_map, vFun_func, vAgg_agg, vTup_tuple, vIfc_nil, vIfc_iface, lC_cons, lN_nil, aP_some, shO_none, shO_some, Option.isNone_none, Option.isNone_some, Bool.not_true, Bool.not_false] | refine w_rd (by assumption) (by assumption) 0 (by rfl) (by rfl) ?_ | refine w_wrL (by assumption) (by assumption) 0 (by rfl) (Nat.le_of_ble_eq_true (by rfl)) (by rfl) fun h ρz O W => ?_ | refine w_wr (by assumption) (by assumption) 0 (by rfl) (Nat.le_of_ble_eq_true (by rfl)) (by rfl) fun h ρz O W => ?_)
      refine bC_iff (fun e => ?_) (fun e => ?_)
      · have e : op ≠ 10 := by simpa using e
        repeat (first | refine ⟨rfl, ?_⟩ | refine ⟨trivial, ?_⟩ | simp only [oB_some, bC_true, bC_false, vInt_int, vBool_bool, vStr_string, vPtr_pointer, vSl_slice, vMap_map, vFun_func, vAgg_agg, vTup_tuple, vIfc_nil, vIfc_iface, lC_cons, lN_nil, aP_some, shO_none, shO_some, Option.isNone_none, Option.isNone_some, Bool.not_true, Bool.not_false] | refine w_rd (by assumption) (by assumption) 0 (by rfl) (by rfl) ?_ | refine w_wrL (by assumption) (by assumption) 0 (by rfl) (Nat.le_of_ble_eq_true (by rfl)) (by rfl) fun h ρz O W => ?_ | refine w_wr (by assumption) (by assumption) 0 (by rfl) (Nat.le_of_ble_eq_true (by rfl)) (by rfl) fun h ρz O W => ?_)
        refine bC_iff (fun e2 => ?_) (fun e2 => ?_)
        · have e2 : kk ≠ 0 := by simpa using e2
          repeat (first | refine ⟨rfl, ?_⟩ | refine ⟨trivial, ?_⟩ | simp only [oB_some, bC_true, bC_false, vInt_int, vBool_bool, vStr_string, vPtr_pointer, vSl_slice, vMap_map, vFun_func, vAgg_agg, vTup_tuple, vIfc_nil, vIfc_iface, lC_cons, lN_nil, aP_some, shO_none, shO_some, Option.isNone_none, Option.isNone_some, Bool.not_true, Bool.not_false] | refine w_rd (by assumption) (by assumption) 0 (by rfl) (by rfl) ?_ | refine w_wrL (by assumption) (by assumption) 0 (by rfl) (Nat.le_of_ble_eq_true (by rfl)) (by rfl) fun h ρz O W => ?_ | refine w_wr (by assumption) (by assumption) 0 (by rfl) (Nat.le_of_ble_eq_true (by rfl)) (by rfl) fun h ρz O W => ?_)
          exact no O F1 (by simp only [F.wf, F.fine, decide_eq_false e2, decide_eq_false e, Bool.or_self, Bool.and_false, Bool.false_and])
        · have e2 : kk = 0 := by simpa using e2
          have hf : F.fine op args.length kk = true := by unfold F.fine; rw [base, decide_eq_true e2, Bool.true_or]; rfl
          repeat (first | refine ⟨rfl, ?_⟩ | refine ⟨trivial, ?_⟩ | simp only [oB_some, bC_true, bC_false, vInt_int, vBool_bool, vStr_string, vPtr_pointer, vSl_slice, vMap_map, vFun_func, vAgg_agg, vTup_tuple, vIfc_nil, vIfc_iface, lC_cons, lN_nil, aP_some, shO_none, shO_some, Option.isNone_none, Option.isNone_some, Bool.not_true, Bool.not_false] | refine w_rd (by assumption) (by assumption) 0 (by rfl) (by rfl) ?_ | refine w_wrL (by assumption) (by assumption) 0 (by rfl) (Nat.le_of_ble_eq_true (by rfl)) (by rfl) fun h ρz O W => ?_ | refine w_wr (by assumption) (by assumption) 0 (by rfl) (Nat.le_of_ble_eq_true (by rfl)) (by rfl) fun h ρz O W => ?_)
          refine rOpens_ok ?_
          simp only [oB_some, bC_true, bC_false, vInt_int, vBool_bool, vStr_string, vPtr_pointer, vSl_slice, vMap_map, vFun_func, vAgg_agg, vTup_tuple, vIfc_nil, vIfc_iface, lC_cons, lN_nil, aP_some, shO_none, shO_some, Option.isNone_none, Option.isNone_some, Bool.not_true, Bool.not_false]
          refine bC_iff (fun ho => ?_) (fun ho => ?_)
          · have ho := nb ho
            repeat (first | refine ⟨rfl, ?_⟩ | refine ⟨trivial, ?_⟩ | simp only [oB_some, bC_true, bC_false, vInt_int, vBool_bool, vStr_string, vPtr_pointer, vSl_slice, vMap_map, vFun_func, vAgg_agg, vTup_tuple, vIfc_nil, vIfc_iface, lC_cons, lN_nil, aP_some, shO_none, shO_some, Option.isNone_none, Option.isNone_some, Bool.not_true, Bool.not_false] | refine w_rd (by assumption) (by assumption) 0 (by rfl) (by rfl) ?_ | refine w_wrL (by assumption) (by assumption) 0 (by rfl) (Nat.le_of_ble_eq_true (by rfl)) (by rfl) fun h ρz O W => ?_ | refine w_wr (by assumption) (by assumption) 0 (by rfl) (Nat.le_of_ble_eq_true (by rfl)) (by rfl) fun h ρz O W => ?_)
            refine bC_iff (fun e => ?_) (fun e => ?_)
            · have e : body.len ≠ 0 := by have := of_decide_eq_true e; omega
              repeat (first | refine ⟨rfl, ?_⟩ | refine ⟨trivial, ?_⟩ | simp only [oB_some, bC_true, bC_false, vInt_int, vBool_bool, vStr_string, vPtr_pointer, vSl_slice, vMap_map, vFun_func, vAgg_agg, vTup_tuple, vIfc_nil, vIfc_iface, lC_cons, lN_nil, aP_some, shO_none, shO_some, Option.isNone_none, Option.isNone_some, Bool.not_true, Bool.not_false] | refine w_rd (by assumption) (by assumption) 0 (by rfl) (by rfl) ?_ | refine w_wrL (by assumption) (by assumption) 0 (by rfl) (Nat.le_of_ble_eq_true (by rfl)) (by rfl) fun h ρz O W => ?_ | refine w_wr (by assumption) (by assumption) 0 (by rfl) (Nat.le_of_ble_eq_true (by rfl)) (by rfl) fun h ρz O W => ?_)
              exact no O F1 (by simp only [F.wf, ho, decide_eq_false e, Bool.or_false, Bool.and_false, Bool.false_and])
            · have e : body.len = 0 := by have := of_decide_eq_false e; omega
              have f3 : (opensM op || decide (body.len = 0)) = true := by rw [decide_eq_true e, Bool.or_true]
              repeat (first | refine ⟨rfl, ?_⟩ | refine ⟨trivial, ?_⟩ | simp only [oB_some, bC_true, bC_false, vInt_int, vBool_bool, vStr_string, vPtr_pointer, vSl_slice, vMap_map, vFun_func, vAgg_agg, vTup_tuple, vIfc_nil, vIfc_iface, lC_cons, lN_nil, aP_some, shO_none, shO_some, Option.isNone_none, Option.isNone_some, Bool.not_true, Bool.not_false] | refine w_rd (by assumption) (by assumption) 0 (by rfl) (by rfl) ?_ | refine w_wrL (by assumption) (by assumption) 0 (by rfl) (Nat.le_of_ble_eq_true (by rfl)) (by rfl) fun h ρz O W => ?_ | refine w_wr (by assumption) (by assumption) 0 (by rfl) (Nat.le_of_ble_eq_true (by rfl)) (by rfl) fun h ρz O W => ?_)
              obtain ⟨bcells, v2, l2⟩ := la
              refine r_brickyardref13_one ?_
              refine one_loop body O (pre := .nil) v2 l2 (show body.len ≤ _ by omega) (by omega) fun h2 μ2 ρ2 O2 F2 => ?_
              have F12 := F1.trans F2
              repeat (first | refine ⟨rfl, ?_⟩ | refine ⟨trivial, ?_⟩ | simp only [oB_some, bC_true, bC_false, vInt_int, vBool_bool, vStr_string, vPtr_pointer, vSl_slice, vMap_map, vFun_func, vAgg_agg, vTup_tuple, vIfc_nil, vIfc_iface, lC_cons, lN_nil, aP_some, shO_none, shO_some, Option.isNone_none, Option.isNone_some, Bool.not_true, Bool.not_false] | refine w_rd (by assumption) (by assumption) 0 (by rfl) (by rfl) ?_ | refine w_wrL (by assumption) (by assumption) 0 (by rfl) (Nat.le_of_ble_eq_true (by rfl)) (by rfl) fun h ρz O W => ?_ | refine w_wr (by assumption) (by assumption) 0 (by rfl) (Nat.le_of_ble_eq_true (by rfl)) (by rfl) fun h ρz O W => ?_)
              refine bC_iff (fun e => no O2 F12 ?_) (fun e => ?_)
              · simp only [F.wf, nb e, Bool.false_and, Bool.and_false]
              have e := nb' e
              rw [wrapS (by omega)]
              have := one_loop rest (Q := Q) O2 (pre := pre.snoc op args kk body) (cap := cap) (X.keep F12) (by rw [e3]; exact L.mono fun _ _ x => x.keep F12) (by rw [e3]; exact hl) (by omega) (by
                have := hq.keep F12
                simp only [F.wf, hf, f3, e, Bool.true_and] at this
                exact this)
              rw [e3, e4] at this
              exact this
          · have f3 : (opensM op || decide (body.len = 0)) = true := by rw [nb' ho]; rfl
            repeat (first | refine ⟨rfl, ?_⟩ | refine ⟨trivial, ?_⟩ | simp only [oB_some, bC_true, bC_false, vInt_int, vBool_bool, vStr_string, vPtr_pointer, vSl_slice, vMap_map, vFun_func, vAgg_agg, vTup_tuple, vIfc_nil, vIfc_iface, lC_cons, lN_nil, aP_some, shO_none, shO_some, Option.isNone_none, Option.isNone_some, Bool.not_true, Bool.not_false] | refine w_rd (by assumption) (by assumption) 0 (by rfl) (by rfl) ?_ | refine w_wrL (by assumption) (by assumption) 0 (by rfl) (Nat.le_of_ble_eq_true (by rfl)) (by rfl) fun h ρz O W => ?_ | refine w_wr (by assumption) (by assumption) 0 (by rfl) (Nat.le_of_ble_eq_true (by rfl)) (by rfl) fun h ρz O W => ?_)
            obtain ⟨bcells, v2, l2⟩ := la
            refine r_brickyardref13_one ?_
            refine one_loop body O (pre := .nil) v2 l2 (show body.len ≤ _ by omega) (by omega) fun h2 μ2 ρ2 O2 F2 => ?_
            have F12 := F1.trans F2
            repeat (first | refine ⟨rfl, ?_⟩ | refine ⟨trivial, ?_⟩ | simp only [oB_some, bC_true, bC_false, vInt_int, vBool_bool, vStr_string, vPtr_pointer, vSl_slice, vMap_map, vFun_func, vAgg_agg, vTup_tuple, vIfc_nil, vIfc_iface, lC_cons, lN_nil, aP_some, shO_none, shO_some, Option.isNone_none, Option.isNone_some, Bool.not_true, Bool.not_false] | refine w_rd (by assumption) (by assumption) 0 (by rfl) (by rfl) ?_ | refine w_wrL (by assumption) (by assumption) 0 (by rfl) (Nat.le_of_ble_eq_true (by rfl)) (by rfl) fun h ρz O W => ?_ | refine w_wr (by assumption) (by assumption) 0 (by rfl) (Nat.le_of_ble_eq_true (by rfl)) (by rfl) fun h ρz O W => ?_)
            refine bC_iff (fun e => no O2 F12 ?_) (fun e => ?_)
            · simp only [F.wf, nb e, Bool.false_and, Bool.and_false]
            have e := nb' e
            rw [wrapS (by omega)]
            have := one_loop rest (Q := Q) O2 (pre := pre.snoc op args kk body) (cap := cap) (X.keep F12) (by rw [e3]; exact L.mono fun _ _ x => x.keep F12) (by rw [e3]; exact hl) (by omega) (by
              have := hq.keep F12
              simp only [F.wf, hf, f3, e, Bool.true_and] at this
              exact this)
            rw [e3, e4] at this
            exact this
      · have e : op = 10 := by simpa using e
        have hf : F.fine op args.length kk = true := by unfold F.fine; rw [base, decide_eq_true e, Bool.or_true]; rfl
        repeat (first | refine ⟨rfl, ?_⟩ | refine ⟨trivial, ?_⟩ | simp only [oB_some, bC_true, bC_false, vInt_int, vBool_bool, vStr_string, vPtr_pointer, vSl_slice, vMap_map, vFun_func, vAgg_agg, vTup_tuple, vIfc_nil, vIfc_iface, lC_cons, lN_nil, aP_some, shO_none, shO_some, Option.isNone_none, Option.isNone_some, Bool.not_true, Bool.not_false] | refine w_rd (by assumption) (by assumption) 0 (by rfl) (by rfl) ?_ | refine w_wrL (by assumption) (by assumption) 0 (by rfl) (Nat.le_of_ble_eq_true (by rfl)) (by rfl) fun h ρz O W => ?_ | refine w_wr (by assumption) (by assumption) 0 (by rfl) (Nat.le_of_ble_eq_true (by rfl)) (by rfl) fun h ρz O W => ?_)
        refine rOpens_ok ?_
        simp only [oB_some, bC_true, bC_false, vInt_int, vBool_bool, vStr_string, vPtr_pointer, vSl_slice, vMap_map, vFun_func, vAgg_agg, vTup_tuple, vIfc_nil, vIfc_iface, lC_cons, lN_nil, aP_some, shO_none, shO_some, Option.isNone_none, Option.isNone_some, Bool.not_true, Bool.not_false]
        refine bC_iff (fun ho => ?_) (fun ho => ?_)
        · have ho := nb ho
          repeat (first | refine ⟨rfl, ?_⟩ | refine ⟨trivial, ?_⟩ | simp only [oB_some, bC_true, bC_false, vInt_int, vBool_bool, vStr_string, vPtr_pointer, vSl_slice, vMap_map, vFun_func, vAgg_agg, vTup_tuple, vIfc_nil, vIfc_iface, lC_cons, lN_nil, aP_some, shO_none, shO_some, Option.isNone_none, Option.isNone_some, Bool.not_true, Bool.not_false] | refine w_rd (by assumption) (by assumption) 0 (by rfl) (by rfl) ?_ | refine w_wrL (by assumption) (by assumption) 0 (by rfl) (Nat.le_of_ble_eq_true (by rfl)) (by rfl) fun h ρz O W => ?_ | refine w_wr (by assumption) (by assumption) 0 (by rfl) (Nat.le_of_ble_eq_true (by rfl)) (by rfl) fun h ρz O W => ?_)
          refine bC_iff (fun e => ?_) (fun e => ?_)
          · have e : body.len ≠ 0 := by have := of_decide_eq_true e; omega
            repeat (first | refine ⟨rfl, ?_⟩ | refine ⟨trivial, ?_⟩ | simp only [oB_some, bC_true, bC_false, vInt_int, vBool_bool, vStr_string, vPtr_pointer, vSl_slice, vMap_map, vFun_func, vAgg_agg, vTup_tuple, vIfc_nil, vIfc_iface, lC_cons, lN_nil, aP_some, shO_none, shO_some, Option.isNone_none, Option.isNone_some, Bool.not_true, Bool.not_false] | refine w_rd (by assumption) (by assumption) 0 (by rfl) (by rfl) ?_ | refine w_wrL (by assumption) (by assumption) 0 (by rfl) (Nat.le_of_ble_eq_true (by rfl)) (by rfl) fun h ρz O W => ?_ | refine w_wr (by assumption) (by assumption) 0 (by rfl) (Nat.le_of_ble_eq_true (by rfl)) (by rfl) fun h ρz O W => ?_)
            exact no O F1 (by simp only [F.wf, ho, decide_eq_false e, Bool.or_false, Bool.and_false, Bool.false_and])
          · have e : body.len = 0 := by have := of_decide_eq_false e; omega
            have f3 : (opensM op || decide (body.len = 0)) = true := by rw [decide_eq_true e, Bool.or_true]
            repeat (first | refine ⟨rfl, ?_⟩ | refine ⟨trivial, ?_⟩ | simp only [oB_some, bC_true, bC_false, vInt_int, vBool_bool, vStr_string, vPtr_pointer, vSl_slice, vMap_map, vFun_func, vAgg_agg, vTup_tuple, vIfc_nil, vIfc_iface, lC_cons, lN_nil, aP_some, shO_none, shO_some, Option.isNone_none, Option.isNone_some, Bool.not_true, Bool.not_false] | refine w_rd (by assumption) (by assumption) 0 (by rfl) (by rfl) ?_ | refine w_wrL (by assumption) (by assumption) 0 (by rfl) (Nat.le_of_ble_eq_true (by rfl)) (by rfl) fun h ρz O W => ?_ | refine w_wr (by assumption) (by assumption) 0 (by rfl) (Nat.le_of_ble_eq_true (by rfl)) (by rfl) fun h ρz O W => ?_)
            obtain ⟨bcells, v2, l2⟩ := la
            refine r_brickyardref13_one ?_
            refine one_loop body O (pre := .nil) v2 l2 (show body.len ≤ _ by omega) (by omega) fun h2 μ2 ρ2 O2 F2 => ?_
            have F12 := F1.trans F2
            repeat (first | refine ⟨rfl, ?_⟩ | refine ⟨trivial, ?_⟩ | simp only [oB_some, bC_true, bC_false, vInt_int, vBool_bool, vStr_string, vPtr_pointer, vSl_slice, vMap_map, vFun_func, vAgg_agg, vTup_tuple, vIfc_nil, vIfc_iface, lC_cons, lN_nil, aP_some, shO_none, shO_some, Option.isNone_none, Option.isNone_some, Bool.not_true, Bool.not_false] | refine w_rd (by assumption) (by assumption) 0 (by rfl) (by rfl) ?_ | refine w_wrL (by assumption) (by assumption) 0 (by rfl) (Nat.le_of_ble_eq_true (by rfl)) (by rfl) fun h ρz O W => ?_ | refine w_wr (by assumption) (by assumption) 0 (by rfl) (Nat.le_of_ble_eq_true (by rfl)) (by rfl) fun h ρz O W => ?_)
            refine bC_iff (fun e => no O2 F12 ?_) (fun e => ?_)
            · simp only [F.wf, nb e, Bool.false_and, Bool.and_false]
            have e := nb' e
            rw [wrapS (by omega)]
            have := one_loop rest (Q := Q) O2 (pre := pre.snoc op args kk body) (cap := cap) (X.keep F12) (by rw [e3]; exact L.mono fun _ _ x => x.keep F12) (by rw [e3]; exact hl) (by omega) (by
              have := hq.keep F12
              simp only [F.wf, hf, f3, e, Bool.true_and] at this
              exact this)
            rw [e3, e4] at this
            exact this
        · have f3 : (opensM op || decide (body.len = 0)) = true := by rw [nb' ho]; rfl
          repeat (first | refine ⟨rfl, ?_⟩ | refine ⟨trivial, ?_⟩ | simp only [oB_some, bC_true, bC_false, vInt_int, vBool_bool, vStr_string, vPtr_pointer, vSl_slice, vMap_map, vFun_func, vAgg_agg, vTup_tuple, vIfc_nil, vIfc_iface, lC_cons, lN_nil, aP_some, shO_none, shO_some, Option.isNone_none, Option.isNone_some, Bool.not_true, Bool.not_false] | refine w_rd (by assumption) (by assumption) 0 (by rfl) (by rfl) ?_ | refine w_wrL (by assumption) (by assumption) 0 (by rfl) (Nat.le_of_ble_eq_true (by rfl)) (by rfl) fun h ρz O W => ?_ | refine w_wr (by assumption) (by assumption) 0 (by rfl) (Nat.le_of_ble_eq_true (by rfl)) (by rfl) fun h ρz O W => ?_)
          obtain ⟨bcells, v2, l2⟩ := la
          refine r_brickyardref13_one ?_
          refine one_loop body O (pre := .nil) v2 l2 (show body.len ≤ _ by omega) (by omega) fun h2 μ2 ρ2 O2 F2 => ?_
          have F12 := F1.trans F2
          repeat (first | refine ⟨rfl, ?_⟩ | refine ⟨trivial, ?_⟩ | simp only [oB_some, bC_true, bC_false, vInt_int, vBool_bool, vStr_string, vPtr_pointer, vSl_slice, vMap_map, vFun_func, vAgg_agg, vTup_tuple, vIfc_nil, vIfc_iface, lC_cons, lN_nil, aP_some, shO_none, shO_some, Option.isNone_none, Option.isNone_some, Bool.not_true, Bool.not_false] | refine w_rd (by assumption) (by assumption) 0 (by rfl) (by rfl) ?_ | refine w_wrL (by assumption) (by assumption) 0 (by rfl) (Nat.le_of_ble_eq_true (by rfl)) (by rfl) fun h ρz O W => ?_ | refine w_wr (by assumption) (by assumption) 0 (by rfl) (Nat.le_of_ble_eq_true (by rfl)) (by rfl) fun h ρz O W => ?_)
          refine bC_iff (fun e => no O2 F12 ?_) (fun e => ?_)
          · simp only [F.wf, nb e, Bool.false_and, Bool.and_false]
          have e := nb' e
          rw [wrapS (by omega)]
          have := one_loop rest (Q := Q) O2 (pre := pre.snoc op args kk body) (cap := cap) (X.keep F12) (by rw [e3]; exact L.mono fun _ _ x => x.keep F12) (by rw [e3]; exact hl) (by omega) (by
            have := hq.keep F12
            simp only [F.wf, hf, f3, e, Bool.true_and] at this
            exact this)
          rw [e3, e4] at this
          exact this
theorem one_ok (O : Own h μ ρ) {f : F} {a : Option Addr} {cap : Nat} (X : Ly ρ f a) (hs : f.size ≤ 1000000000) (hq : RdQ Q ρ (.bool f.wf)) : EvQ P f_brickyardref13_one [.slice a f.len cap] h Q := by
  obtain ⟨c, v, l⟩ := X
  have := F.size_more f
  exact r_brickyardref13_one (one_loop f O (pre := .nil) v l (show f.len ≤ _ by omega) hs hq)
theorem rmay_ok (O : Own h μ ρ) {f : F} {a : Option Addr} {cap : Nat} (X : Ly ρ f a) (hs : f.size ≤ 1000000000) (hq : RdQ Q ρ (.bool f.may)) : EvQ P f_brickyardref13_May [.slice a f.len cap] h Q := by
  have hm : f.may = (f.wf && (decide (f.size ≤ 256) && decide (f.deep ≤ 8))) := by
    rw [Bool.eq_iff_iff, F.may_iff]
    simp only [Bool.and_eq_true, decide_eq_true_eq]
    exact ⟨fun ⟨x, y, z⟩ => ⟨x, z, y⟩, fun ⟨x, z, y⟩ => ⟨x, y, z⟩⟩
  rw [hm] at hq
  refine r_brickyardref13_May ?_
  refine one_ok O X hs fun h2 μ2 ρ2 O2 F2 => ?_
  simp only [oB_some, bC_true, bC_false, vInt_int, vBool_bool, vStr_string, vPtr_pointer, vSl_slice, vMap_map, vFun_func, vAgg_agg, vTup_tuple, vIfc_nil, vIfc_iface, lC_cons, lN_nil, aP_some, shO_none, shO_some, Option.isNone_none, Option.isNone_some, Bool.not_true, Bool.not_false]
  refine bC_iff (fun e => ?_) (fun e => ?_)
  · rw [e, Bool.true_and] at hq
    refine rsize_ok O2 (X.keep F2) hs fun h3 μ3 ρ3 O3 F3 => ?_
    simp only [oB_some, bC_true, bC_false, vInt_int, vBool_bool, vStr_string, vPtr_pointer, vSl_slice, vMap_map, vFun_func, vAgg_agg, vTup_tuple, vIfc_nil, vIfc_iface, lC_cons, lN_nil, aP_some, shO_none, shO_some, Option.isNone_none, Option.isNone_some, Bool.not_true, Bool.not_false]
    refine bC_iff (fun e => ?_) (fun e => ?_)
    · have e : f.size ≤ 256 := by have := of_decide_eq_true e; omega
      rw [decide_eq_true e, Bool.true_and] at hq
      refine rdeep_ok O3 ((X.keep F2).keep F3) hs fun h4 μ4 ρ4 O4 F4 => ?_
      simp only [oB_some, bC_true, bC_false, vInt_int, vBool_bool, vStr_string, vPtr_pointer, vSl_slice, vMap_map, vFun_func, vAgg_agg, vTup_tuple, vIfc_nil, vIfc_iface, lC_cons, lN_nil, aP_some, shO_none, shO_some, Option.isNone_none, Option.isNone_some, Bool.not_true, Bool.not_false]
      rw [show decide ((f.deep : Int) ≤ 8) = decide (f.deep ≤ 8) from decide_eq_decide.2 (by omega)]
      exact hq _ _ _ O4 ((F2.trans F3).trans F4)
    · have e : ¬ f.size ≤ 256 := by have := of_decide_eq_false e; omega
      rw [decide_eq_false e, Bool.false_and] at hq
      exact hq _ _ _ O3 (F2.trans F3)
  · rw [e, Bool.false_and] at hq
    exact hq _ _ _ O2 F2
end Go.Proofs.YtamoepfiodgbbaaGreatDoor
end

section
/- Statements as lines, as said. -/
namespace Go.Proofs.YtamoepfiodgbbaaGreatDoor
open Go.Abs Go.Abs.Fo
set_option maxRecDepth 100000
attribute [local irreducible] unitAt EvQ
variable {h : AW} {μ : Paint} {ρ ρ' : Store} {Q : Value → AW → Prop}
/-- What the loop over some statements does. -/
def LR (rest : F) : Prop := ∀ ⦃ρ : Store⦄ ⦃cm : Nat⦄, ρ cm = none → ∀ ⦃h : AW⦄ ⦃μ : Paint⦄ ⦃ρ1 ρ' : Store⦄ ⦃co : Nat⦄ ⦃oa : Option Addr⦄ ⦃oc : Nat⦄ ⦃acc : List Wds⦄ ⦃vs : List (Option Addr × Nat × Nat × List Value)⦄ ⦃Q : Value → AW → Prop⦄ ⦃pre : F⦄ ⦃a : Option Addr⦄ ⦃c : List Value⦄ ⦃cap : Nat⦄,
    Own h μ ρ' → Pcs ρ1 ρ' [co, cm] [.sl oa oc 1 (acc.map Wds.cell), .many vs] → ρ1 co = none → Fra [] ρ ρ1 → Vw ρ [] a c → Lies (Vw ρ []) (pre.app rest) c → (pre.app rest).len ≤ 140737488355328 → rest.wf = true → Slim rest → acc.length + rest.lines.length ≤ 1000000 → Built vs acc →
    (∀ h' μ' ρ2 oa' oc' acc' vs', Own h' μ' ρ2 → Pcs ρ1 ρ2 [co, cm] [.sl oa' oc' 1 (acc'.map Wds.cell), .many vs'] → Built vs' acc' → acc'.map Wds.x = acc.map Wds.x ++ rest.lines → (∀ x, x ∈ vs → x ∈ vs') → Q (.slice oa' acc'.length oc') h') →
    unitAt P f_brickyardref13_all 3 [0, 3, 4] [.slice a (pre.app rest).len cap, .slice oa acc.length oc, .int .i64 (pre.len : Int)] h Q
theorem rlines_10 {k m : Nat} {args : List Str} {body rest : F} (IB : LR body) (IR : LR rest) {cm : Nat} (hcm : ρ cm = none) {ρ1 ρ' : Store} {co cx cn p na nc ac bc oc cap : Nat} {oa aa ba a nx : Option Addr} {acc : List Wds} {vs : List (Option Addr × Nat × Nat × List Value)} {pre : F} {c : List Value}
    (O : Own h μ ρ') (W : Pcs ρ1 ρ' [cn, cx, co, cm] [.sl nx nc 1 (strs (lineM k args m)), .var p [.int .i64 k, .slice aa args.length ac, .int .i64 m, .slice ba body.len bc], .sl oa oc 1 (acc.map Wds.cell), .many vs]) (hcn : ρ1 cn = none) (hcx : ρ1 cx = none) (hco : ρ1 co = none) (Fr : Fra [] ρ ρ1)
    (X : Vw ρ [] a c) (L : Lies (Vw ρ []) (pre.app (.cons k args m body rest)) c) (Lb : Ly ρ body ba) (hl : (pre.app (.cons k args m body rest)).len ≤ 140737488355328) (hbl : body.len ≤ 140737488355328) (hw : (F.cons k args m body rest).wf = true) (hs : Slim (.cons k args m body rest)) (hn : acc.length + (F.cons k args m body rest).lines.length ≤ 1000000) (B : Built vs acc) (hnx : na = (lineM k args m).length)
    (hq : ∀ h' μ' ρ2 oa' oc' acc' vs', Own h' μ' ρ2 → Pcs ρ1 ρ2 [co, cm] [.sl oa' oc' 1 (acc'.map Wds.cell), .many vs'] → Built vs' acc' → acc'.map Wds.x = acc.map Wds.x ++ (F.cons k args m body rest).lines → (∀ x, x ∈ vs → x ∈ vs') → Q (.slice oa' acc'.length oc') h') :
    unitAt P f_brickyardref13_all 10 [0, 3, 4, 5, 6] [.slice a (pre.app (.cons k args m body rest)).len cap, .slice oa acc.length oc, .int .i64 (pre.len : Int), .pointer (some ⟨p, 0, none⟩), .slice nx na nc] h Q := by
  subst hnx
  have hlt : pre.len < (pre.app (.cons k args m body rest)).len := app_lt
  simp only [F.wf, Bool.and_eq_true] at hw
  obtain ⟨⟨⟨w1, w2⟩, w3⟩, w4⟩ := hw
  obtain ⟨s1, s2, s3⟩ := hs
  have hlines : (F.cons (k : Int) args (m : Int) body rest).lines = lineM k args m :: ((if opensM k = true then body.lines ++ [[wEnd]] else []) ++ rest.lines) := rfl
  rw [hlines] at hn hq
  simp only [List.length_cons, List.length_append] at hn
  obtain ⟨e3, e4⟩ := snocs pre k args m body
  have hcap : (lineM (k : Int) args (m : Int)).length ≤ nc := by have := w_cap O W 0 rfl; simpa using this
  refine r_brickyardref13_all_10 ?_
  obtain ⟨μ1, ρ2, O1, W1⟩ := w_into O W hcn 2 rfl
  obtain ⟨μ2, ρ3, ch, O2, W2, hch⟩ := w_block O1 W1 [.slice nx (lineM (k : Int) args (m : Int)).length nc] (n := 1) (sz := 1) rfl rfl
  refine w_app (P := P) O2 W2 2 (n := acc.length) (m := 1) ti_ty_sl_sl_string ti_ty_sl_string (by decide) rfl (by simp) (w_sl O2 W2 0 rfl) rfl rfl (by omega) (by omega) fun oa1 oc1 h2 μ4 ρ5 O4 W4 => ?_
  have W5 := W4.tail hch
  have W6 : Pcs ρ1 ρ5 [cx, co, cm] [.var p [.int .i64 k, .slice aa args.length ac, .int .i64 m, .slice ba body.len bc], .sl oa1 oc1 1 ((acc ++ [(⟨nx, nc, lineM k args m⟩ : Wds)]).map Wds.cell), .many ((nx, nc, 1, strs (lineM k args m)) :: vs)] := W5.eq (by simp [Wds.cell])
  have B1 := B.snoc (p := ⟨nx, nc, lineM k args m⟩) hcap
  simp only [oB_some, bC_true, bC_false, vInt_int, vBool_bool, vStr_string, vPtr_pointer, vSl_slice, vMap_map, vFun_func, vAgg_agg, vTup_tuple, vIfc_nil, vIfc_iface, lC_cons, lN_nil, aP_some, shO_none, shO_some, Option.isNone_none, Option.isNone_some, Bool.not_true, Bool.not_false]
  refine w_rd O4 W6 0 (j := 0) rfl rfl ?_
  simp only [oB_some, bC_true, bC_false, vInt_int, vBool_bool, vStr_string, vPtr_pointer, vSl_slice, vMap_map, vFun_func, vAgg_agg, vTup_tuple, vIfc_nil, vIfc_iface, lC_cons, lN_nil, aP_some, shO_none, shO_some, Option.isNone_none, Option.isNone_some, Bool.not_true, Bool.not_false]
  refine rOpens_ok ?_
  simp only [oB_some, bC_true, bC_false, vInt_int, vBool_bool, vStr_string, vPtr_pointer, vSl_slice, vMap_map, vFun_func, vAgg_agg, vTup_tuple, vIfc_nil, vIfc_iface, lC_cons, lN_nil, aP_some, shO_none, shO_some, Option.isNone_none, Option.isNone_some, Bool.not_true, Bool.not_false]
  rw [wrapS (by omega)]
  have hnm : ∀ c, c ∈ [cx, co, cm] → ρ c = none := fun c hc => by
    simp at hc; rcases hc with rfl | rfl | rfl
    · exact Fr.none0 hcx
    · exact Fr.none0 hco
    · exact hcm
  refine bC_iff (fun ho => ?_) (fun ho => ?_)
  · rw [ho] at hn hq
    simp only [if_true, List.length_append, List.length_cons, List.length_nil] at hn hq
    refine w_rd O4 W6 0 (j := 3) rfl rfl ?_
    simp only [oB_some, bC_true, bC_false, vInt_int, vBool_bool, vStr_string, vPtr_pointer, vSl_slice, vMap_map, vFun_func, vAgg_agg, vTup_tuple, vIfc_nil, vIfc_iface, lC_cons, lN_nil, aP_some, shO_none, shO_some, Option.isNone_none, Option.isNone_some, Bool.not_true, Bool.not_false]
    refine r_brickyardref13_all ?_
    obtain ⟨ρ7, cb, O6, W7, hcb⟩ := w_nil O4 W6.self.tail'.tail' 1
    have F6 : Fra [] ρ ρ5 := Fr.via W6.fra hnm
    obtain ⟨bcells, bX, bL⟩ := Lb
    refine IB hcm (acc := []) (pre := .nil) O6 W7 hcb F6 bX bL hbl w3 s2 (by simp only [List.length_nil]; omega) Built.nil fun h7 μ7 ρ8 ba2 bc2 accb vs2 O7 W8 B2 e2 hmore => ?_
    simp only [List.map_nil, List.nil_append] at e2
    have hlb : accb.length = body.lines.length := by have := congrArg List.length e2; simpa using this
    simp only [oB_some, bC_true, bC_false, vInt_int, vBool_bool, vStr_string, vPtr_pointer, vSl_slice, vMap_map, vFun_func, vAgg_agg, vTup_tuple, vIfc_nil, vIfc_iface, lC_cons, lN_nil, aP_some, shO_none, shO_some, Option.isNone_none, Option.isNone_some, Bool.not_true, Bool.not_false]
    have W9 := W6.call1 (fs := [cx, co]) (ms := [cm]) (xs := [_, _]) rfl W8 hcb
    have hcb1 : ρ1 cb = none := W6.not0 hcb
    refine w_app (P := P) O7 W9 2 (n := acc.length + 1) (m := accb.length) ti_ty_sl_sl_string ti_ty_sl_string (by decide) rfl (by simp) (w_sl O7 W9 0 rfl) (by simp) (allOne_cells _) (by omega) (by omega) fun oa3 oc3 h8 μ8 ρ9 O8 W10 => ?_
    have W11 := W10.tail hcb1
    have W12 : Pcs ρ1 ρ9 [cx, co, cm] [.var p [.int .i64 k, .slice aa args.length ac, .int .i64 m, .slice ba body.len bc], .sl oa3 oc3 1 ((acc ++ [(⟨nx, nc, lineM k args m⟩ : Wds)] ++ accb).map Wds.cell), .many vs2] := W11.eq (by simp)
    have B3 : Built vs2 (acc ++ [(⟨nx, nc, lineM k args m⟩ : Wds)] ++ accb) := (B1.more hmore).app B2
    simp only [oB_some, bC_true, bC_false, vInt_int, vBool_bool, vStr_string, vPtr_pointer, vSl_slice, vMap_map, vFun_func, vAgg_agg, vTup_tuple, vIfc_nil, vIfc_iface, lC_cons, lN_nil, aP_some, shO_none, shO_some, Option.isNone_none, Option.isNone_some, Bool.not_true, Bool.not_false]
    rw [show acc.length + 1 + accb.length = (acc ++ [(⟨nx, nc, lineM k args m⟩ : Wds)] ++ accb).length from by simp; omega]
    refine app_line O8 W12 1 2 (by decide) rfl rfl [wEnd] (by simp; omega) fun h9 μ9 ρ10 oa4 oc4 q hq1 hq2 O9 W13 => ?_
    simp only [oB_some, bC_true, bC_false, vInt_int, vBool_bool, vStr_string, vPtr_pointer, vSl_slice, vMap_map, vFun_func, vAgg_agg, vTup_tuple, vIfc_nil, vIfc_iface, lC_cons, lN_nil, aP_some, shO_none, shO_some, Option.isNone_none, Option.isNone_some, Bool.not_true, Bool.not_false]
    have W14 := W13.tail hcx
    have B4 := B3.snoc (p := q) (by rw [hq1, hq2]; decide)
    rw [← e3] at L hl ⊢
    rw [← e4, show (acc ++ [(⟨nx, nc, lineM k args m⟩ : Wds)] ++ accb).length + 1 = (acc ++ [(⟨nx, nc, lineM k args m⟩ : Wds)] ++ accb ++ [q]).length from by simp; omega]
    refine IR hcm O9 W14 hco Fr X L hl w4 s3 (by simp; omega) B4 fun h' μ' ρ' oa' oc' acc' vs' O' W' B' e' hm' => ?_
    refine hq h' μ' ρ' oa' oc' acc' vs' O' W' B' ?_ fun x hx => hm' _ (List.mem_cons_of_mem _ (hmore _ (List.mem_cons_of_mem _ hx)))
    rw [e']
    simp [hq1, e2]
  · rw [ho] at hn hq
    simp only [Bool.false_eq_true, if_false, List.length_nil, List.nil_append] at hn hq
    rw [← e3] at L hl ⊢
    rw [← e4, show acc.length + 1 = (acc ++ [(⟨nx, nc, lineM k args m⟩ : Wds)]).length from by simp]
    refine IR hcm O4 (W6.tail hcx) hco Fr X L hl w4 s3 (by simp; omega) B1 fun h' μ' ρ' oa' oc' acc' vs' O' W' B' e' hm' => ?_
    refine hq h' μ' ρ' oa' oc' acc' vs' O' W' B' ?_ fun x hx => hm' _ (List.mem_cons_of_mem _ hx)
    rw [e']
    simp
theorem rlines_loop : ∀ rest : F, LR rest
  | .nil => by
    intro ρ cm hcm h μ ρ1 ρ' co oa oc acc vs Q pre a c cap O W hco Fr X L hl hw hs hn B hq
    refine r_brickyardref13_all_3 ?_
    rw [F.app_nil, geI (Nat.le_refl _)]
    simp only [oB_some, bC_true, bC_false, vInt_int, vBool_bool, vStr_string, vPtr_pointer, vSl_slice, vMap_map, vFun_func, vAgg_agg, vTup_tuple, vIfc_nil, vIfc_iface, lC_cons, lN_nil, aP_some, shO_none, shO_some, Option.isNone_none, Option.isNone_some, Bool.not_true, Bool.not_false]
    exact hq _ _ _ _ _ acc vs O W B (by simp [F.lines]) fun _ x => x
  | .cons op args kk body rest => by
    intro ρ cm hcm h μ ρ1 ρ' co oa oc acc vs Q pre a c cap O W hco Fr X L hl hw hs hn B hq
    have hlt : pre.len < (pre.app (.cons op args kk body rest)).len := app_lt
    have w1 : F.fine op args.length kk = true := by
      have := hw; simp only [F.wf, Bool.and_eq_true] at this; exact this.1.1.1
    unfold F.fine at w1
    simp only [Bool.and_eq_true, Bool.or_eq_true, decide_eq_true_eq] at w1
    obtain ⟨⟨⟨⟨⟨k1, k2⟩, k3⟩, k4⟩, k5⟩, k6⟩ := w1
    obtain ⟨k, rfl⟩ : ∃ k : Nat, op = k := ⟨op.toNat, by omega⟩
    obtain ⟨m, rfl⟩ : ∃ m : Nat, kk = m := ⟨kk.toNat, by omega⟩
    have hal := hs.1
    have hnm : ∀ c, c ∈ [co, cm] → ρ c = none := fun c hc => by
      simp at hc; rcases hc with rfl | rfl
      · exact Fr.none0 hco
      · exact hcm
    have F0 : Fra [] ρ ρ' := Fr.via W.fra hnm
    refine r_brickyardref13_all_3 ?_
    rw [ltI hlt]
    simp only [oB_some, bC_true, bC_false, vInt_int, vBool_bool, vStr_string, vPtr_pointer, vSl_slice, vMap_map, vFun_func, vAgg_agg, vTup_tuple, vIfc_nil, vIfc_iface, lC_cons, lN_nil, aP_some, shO_none, shO_some, Option.isNone_none, Option.isNone_some, Bool.not_true, Bool.not_false]
    refine st_copyB O F0 X L W rfl rfl fun h1 μ1 ρx cx aa ac ba bc O1 W1 hcx F1 va la => ?_
    have hcx0 : ρ cx = none := Fr.none0 hcx
    have hnm1 : ∀ c, c ∈ [cx, co, cm] → ρ c = none := fun c hc => by
      rcases List.mem_cons.1 hc with rfl | hc
      · exact hcx0
      · exact hnm c hc
    refine w_rd O1 W1 0 (j := 0) rfl rfl ?_
    simp only [oB_some, bC_true, bC_false, vInt_int, vBool_bool, vStr_string, vPtr_pointer, vSl_slice, vMap_map, vFun_func, vAgg_agg, vTup_tuple, vIfc_nil, vIfc_iface, lC_cons, lN_nil, aP_some, shO_none, shO_some, Option.isNone_none, Option.isNone_some, Bool.not_true, Bool.not_false]
    refine rWord_ok ?_
    simp only [oB_some, bC_true, bC_false, vInt_int, vBool_bool, vStr_string, vPtr_pointer, vSl_slice, vMap_map, vFun_func, vAgg_agg, vTup_tuple, vIfc_nil, vIfc_iface, lC_cons, lN_nil, aP_some, shO_none, shO_some, Option.isNone_none, Option.isNone_some, Bool.not_true, Bool.not_false]
    obtain ⟨μ3, ρ3, cn, O3, W3, hcn⟩ := w_block O1 W1 (strs [wordM k]) (n := 1) (sz := 1) rfl rfl
    have hnm3 : ∀ c, c ∈ [cn, cx, co, cm] → ρ c = none := fun c hc => by
      rcases List.mem_cons.1 hc with rfl | hc
      · exact Fr.none0 hcn
      · exact hnm1 c hc
    have F3 : Fra [] ρ ρ3 := Fr.via W3.fra hnm3
    repeat (first | refine ⟨rfl, ?_⟩ | refine ⟨trivial, ?_⟩ | simp only [oB_some, bC_true, bC_false, vInt_int, vBool_bool, vStr_string, vPtr_pointer, vSl_slice, vMap_map, vFun_func, vAgg_agg, vTup_tuple, vIfc_nil, vIfc_iface, lC_cons, lN_nil, aP_some, shO_none, shO_some, Option.isNone_none, Option.isNone_some, Bool.not_true, Bool.not_false] | refine w_rd (by assumption) (by assumption) 0 (by rfl) (by rfl) ?_ | refine w_rd (by assumption) (by assumption) 1 (by rfl) (by rfl) ?_ | refine w_wrL (by assumption) (by assumption) 0 (by rfl) (Nat.le_of_ble_eq_true (by rfl)) (by rfl) fun h ρz O W => ?_ | refine w_wrL (by assumption) (by assumption) 1 (by rfl) (Nat.le_of_ble_eq_true (by rfl)) (by rfl) fun h ρz O W => ?_ | refine w_wr (by assumption) (by assumption) 0 (by rfl) (Nat.le_of_ble_eq_true (by rfl)) (by rfl) fun h ρz O W => ?_ | refine w_wr (by assumption) (by assumption) 1 (by rfl) (Nat.le_of_ble_eq_true (by rfl)) (by rfl) fun h ρz O W => ?_)
    refine w_app (P := P) O3 W3 0 (n := 1) (m := args.length) ti_ty_sl_string ti_ty_string (by decide) rfl rfl ((va.keep F3).sl O3) (by simp) allOne_strs (by omega) (by omega) fun nx nc h4 μ4 ρ4 O4 W4 => ?_
    have hbl : body.len ≤ 140737488355328 := by
      have := len_lines body
      have w2 : (opensM k || decide (body.len = 0)) = true := by
        have := hw; simp only [F.wf, Bool.and_eq_true] at this; exact this.1.1.2
      cases ho : opensM (k : Int) with
      | true =>
        simp only [F.lines, ho, if_true, List.length_cons, List.length_append] at hn
        omega
      | false =>
        rw [ho] at w2
        simp at w2
        omega
    repeat (first | refine ⟨rfl, ?_⟩ | refine ⟨trivial, ?_⟩ | simp only [oB_some, bC_true, bC_false, vInt_int, vBool_bool, vStr_string, vPtr_pointer, vSl_slice, vMap_map, vFun_func, vAgg_agg, vTup_tuple, vIfc_nil, vIfc_iface, lC_cons, lN_nil, aP_some, shO_none, shO_some, Option.isNone_none, Option.isNone_some, Bool.not_true, Bool.not_false] | refine w_rd (by assumption) (by assumption) 0 (by rfl) (by rfl) ?_ | refine w_rd (by assumption) (by assumption) 1 (by rfl) (by rfl) ?_ | refine w_wrL (by assumption) (by assumption) 0 (by rfl) (Nat.le_of_ble_eq_true (by rfl)) (by rfl) fun h ρz O W => ?_ | refine w_wrL (by assumption) (by assumption) 1 (by rfl) (Nat.le_of_ble_eq_true (by rfl)) (by rfl) fun h ρz O W => ?_ | refine w_wr (by assumption) (by assumption) 0 (by rfl) (Nat.le_of_ble_eq_true (by rfl)) (by rfl) fun h ρz O W => ?_ | refine w_wr (by assumption) (by assumption) 1 (by rfl) (Nat.le_of_ble_eq_true (by rfl)) (by rfl) fun h ρz O W => ?_)
    have F4 : Fra [] ρ ρ4 := Fr.via W4.fra hnm3
    refine bC_iff (fun e10 => ?_) (fun e10 => ?_)
    · have e10 : k = 10 := by have := eqI e10; omega
      refine w_rd O4 W4 1 (j := 2) rfl rfl ?_
      simp only [oB_some, bC_true, bC_false, vInt_int, vBool_bool, vStr_string, vPtr_pointer, vSl_slice, vMap_map, vFun_func, vAgg_agg, vTup_tuple, vIfc_nil, vIfc_iface, lC_cons, lN_nil, aP_some, shO_none, shO_some, Option.isNone_none, Option.isNone_some, Bool.not_true, Bool.not_false]
      refine rDigits_ok O4 (n := m) (by omega) fun h5 μ5 ρ5 O5 F5 => ?_
      have W5 := W4.keep0 F5
      simp only [oB_some, bC_true, bC_false, vInt_int, vBool_bool, vStr_string, vPtr_pointer, vSl_slice, vMap_map, vFun_func, vAgg_agg, vTup_tuple, vIfc_nil, vIfc_iface, lC_cons, lN_nil, aP_some, shO_none, shO_some, Option.isNone_none, Option.isNone_some, Bool.not_true, Bool.not_false]
      obtain ⟨μ6, ρ6, c6, O6, W6, hc6⟩ := w_block O5 W5 (strs [digS m]) (n := 1) (sz := 1) rfl rfl
      refine w_app (P := P) O6 W6 1 (n := 1 + args.length) (m := 1) ti_ty_sl_string ti_ty_string (by decide) rfl (by simp; omega) (w_sl O6 W6 0 rfl) rfl rfl (by omega) (by omega) fun nx nc h7 μ7 ρ7 O7 W7 => ?_
      simp only [oB_some, bC_true, bC_false, vInt_int, vBool_bool, vStr_string, vPtr_pointer, vSl_slice, vMap_map, vFun_func, vAgg_agg, vTup_tuple, vIfc_nil, vIfc_iface, lC_cons, lN_nil, aP_some, shO_none, shO_some, Option.isNone_none, Option.isNone_some, Bool.not_true, Bool.not_false]
      have el : lineM (k : Int) args (m : Int) = [wordM k] ++ args ++ [digS m] := by
        unfold lineM; rw [if_pos (by omega)]; simp
      have W8 : Pcs ρ1 ρ7 [cn, cx, co, cm] [.sl nx nc 1 (strs (lineM k args m)), .var (AW.next h) [.int .i64 k, .slice aa args.length ac, .int .i64 m, .slice ba body.len bc], .sl oa oc 1 (acc.map Wds.cell), .many vs] := (W7.tail hc6).eq (by rw [el]; simp [strs])
      refine rlines_10 (rlines_loop body) (rlines_loop rest) hcm O7 W8 hcn hcx hco Fr X L la hl hbl hw hs hn B (by rw [el]; simp; omega) hq
    · have e10 : k ≠ 10 := by have := neI e10; omega
      have el : lineM (k : Int) args (m : Int) = [wordM k] ++ args := by
        unfold lineM; rw [if_neg (by omega)]; simp
      have W8 : Pcs ρ1 ρ4 [cn, cx, co, cm] [.sl nx nc 1 (strs (lineM k args m)), .var (AW.next h) [.int .i64 k, .slice aa args.length ac, .int .i64 m, .slice ba body.len bc], .sl oa oc 1 (acc.map Wds.cell), .many vs] := W4.eq (by rw [el]; simp [strs])
      refine rlines_10 (rlines_loop body) (rlines_loop rest) hcm O4 W8 hcn hcx hco Fr X L la hl hbl hw hs hn B (by rw [el]; simp; omega) hq
/-- The lines of statements. -/
theorem rlines_ok (O : Own h μ ρ) {f : F} {a : Option Addr} {cap : Nat} (X : Ly ρ f a) (hl : f.len ≤ 140737488355328) (hw : f.wf = true) (hs : Slim f) (hn : f.lines.length ≤ 1000000)
    (H : ∀ h' μ' ρ' co cm oa oc ps vs, Own h' μ' ρ' → Pcs ρ ρ' [co, cm] [.sl oa oc 1 (ps.map Wds.cell), .many vs] → ρ co = none → ρ cm = none → Built vs ps → ps.map Wds.x = f.lines → Q (.slice oa ps.length oc) h') : EvQ P f_brickyardref13_all [.slice a f.len cap] h Q := by
  refine r_brickyardref13_all ?_
  obtain ⟨c, X, L⟩ := X
  obtain ⟨ρ1, cm, O1, W1, hcm⟩ := w_many O (p00 (ρ := ρ))
  have W1' : Pcs ρ1 ρ1 [cm] [.many []] := W1.self
  obtain ⟨ρ2, co, O2, W2, hco⟩ := w_nil O1 W1' 1
  have F1 : Fra [] ρ ρ1 := W1.fra0 fun c hc => by simp at hc; rw [hc]; exact hcm
  refine rlines_loop f (pre := .nil) (acc := []) hcm O2 W2 hco F1 X L hl hw hs (by simp; omega) Built.nil fun h' μ' ρ' oa' oc' acc' vs' O' W' B' e' _ => ?_
  have hco0 : ρ co = none := Fra.none0 F1 hco
  have W3 : Pcs ρ ρ' [co, cm] [.sl oa' oc' 1 (acc'.map Wds.cell), .many vs'] := ⟨W'.nodup, W'.len, W'.at_, fun c r hn hc => W'.fra c r hn (F1 c r (by simp) hc)⟩
  exact H _ _ _ _ _ _ _ _ _ O' W3 hco0 hcm B' (by simpa using e')
/-- .. if it may be. -/
theorem rlinesB_ok (O : Own h μ ρ) {f : F} {a : Option Addr} {cap : Nat} (X : Ly ρ f a) (hl : f.len ≤ 140737488355328) (hz : f.size ≤ 1000000000) (hs : Slim f)
    (H1 : f.may = false → RdQ Q ρ (.tuple ⟨[.slice none 0 0, .int .i64 2]⟩))
    (H : f.may = true → ∀ h' μ' ρ' co cm oa oc ps vs, Own h' μ' ρ' → Pcs ρ ρ' [co, cm] [.sl oa oc 1 (ps.map Wds.cell), .many vs] → ρ co = none → ρ cm = none → Built vs ps → ps.map Wds.x = f.lines → Q (.tuple ⟨[.slice oa ps.length oc, .int .i64 0]⟩) h') : EvQ P f_brickyardref13_Lines [.slice a f.len cap] h Q := by
  refine r_brickyardref13_Lines ?_
  refine rmay_ok O X hz fun h1 μ1 ρ1 O1 F1 => ?_
  simp only [oB_some, bC_true, bC_false, vInt_int, vBool_bool, vStr_string, vPtr_pointer, vSl_slice, vMap_map, vFun_func, vAgg_agg, vTup_tuple, vIfc_nil, vIfc_iface, lC_cons, lN_nil, aP_some, shO_none, shO_some, Option.isNone_none, Option.isNone_some, Bool.not_true, Bool.not_false]
  refine bC_iff (fun e => ?_) (fun e => ?_)
  · exact H1 (nb e) h1 μ1 ρ1 O1 F1
  have e := nb' e
  obtain ⟨m1, m2, m3⟩ := F.may_iff.1 e
  have hlen := F.lines_len f
  refine rlines_ok O1 (X.keep F1) hl m1 hs (by omega) fun h' μ' ρ' co cm oa oc ps vs O' W' hco hcm B' e' => ?_
  simp only [oB_some, bC_true, bC_false, vInt_int, vBool_bool, vStr_string, vPtr_pointer, vSl_slice, vMap_map, vFun_func, vAgg_agg, vTup_tuple, vIfc_nil, vIfc_iface, lC_cons, lN_nil, aP_some, shO_none, shO_some, Option.isNone_none, Option.isNone_some, Bool.not_true, Bool.not_false]
  have W3 : Pcs ρ ρ' [co, cm] [.sl oa oc 1 (ps.map Wds.cell), .many vs] := ⟨W'.nodup, W'.len, W'.at_, fun c r hn hc => W'.fra c r hn (F1 c r (by simp) hc)⟩
  exact H e _ _ _ _ _ _ _ _ _ O' W3 (Fra.none0 F1 hco) (Fra.none0 F1 hcm) B' e'
end Go.Proofs.YtamoepfiodgbbaaGreatDoor
end
