/- A deterministic heap for the model, proved sound, and walks of the program over it: part 12. No condition. -/
import Derived.Test.YtgdkekdedgkglaaDoorAb1
import Derived.Test.YtgdkekdedgkglaaDoorAb2
import Derived.Test.YtgdkekdedgkglaaDoorAb3
import Derived.Test.YtgdkekdedgkglaaDoorAb4
import Derived.Test.YtgdkekdedgkglaaDoorAb6
import Derived.Test.YtgdkekdedgkglaaDoorCd4
import Derived.Test.YtgdkekdedgkglaaDoorAb5
import Derived.Test.YtgdkekdedgkglaaDoorCd5
import Derived.Test.YtgdkekdedgkglaaDoorCd2
import Derived.Test.YtgdkekdedgkglaaDoorCd1
import Derived.Test.YtgdkekdedgkglaaDoorCd3
set_option linter.unusedVariables false
set_option linter.unusedSimpArgs false
set_option linter.unusedSectionVars false
section
/- Statements as lines: the program's walk. -/
namespace Go.Proofs.YtgdkekdedgkglaaDoor
open Go.Abs Go.Abs.Fo
set_option maxRecDepth 100000
attribute [local irreducible] unitAt EvQ
variable {h : AW} {μ : Paint} {ρ ρ' : Store} {Q : Value → AW → Prop}
/-- No statement has too many words. -/
def Slim : F → Prop
  | .nil => True
  | .cons _ args _ b r => args.length ≤ 262144 ∧ Slim b ∧ Slim r
theorem slim_full : ∀ {f : F}, full f ≤ 262144 → Slim f
  | .nil, _ => trivial
  | .cons _ args _ b r, h => by
    simp only [full] at h
    have : args.length ≤ (args.map fun s => 1 + s.size).sum := by
      have := sum_len (l := args.map fun s => 1 + s.size) (by intro a ha; obtain ⟨l, _, rfl⟩ := List.mem_map.1 ha; omega)
      simpa using this
    exact ⟨by omega, slim_full (by omega), slim_full (by omega)⟩
theorem len_lines : ∀ f : F, f.len ≤ f.lines.length
  | .nil => Nat.le_refl _
  | .cons _ _ _ b r => by
    have := len_lines r
    simp only [F.len, F.lines, List.length_cons, List.length_append]
    omega
/-- A statement, copied; the place is seen from before. -/
theorem st_copyB (O : Own h μ ρ') (F0 : Fra [] ρ ρ') {pre rest body : F} {op kk : Int} {args : List Str} {a : Option Addr} {c : List Value} {N : Nat} {z : Int} (X : Vw ρ [] a c) (L : Lies (Vw ρ []) (pre.app (.cons op args kk body rest)) c)
    {ρ1 : Store} {ns : List Nat} {rs : List Res} (W : Pcs ρ1 ρ' ns rs)
    (hz : z = pre.len) (hN : N = (pre.app (.cons op args kk body rest)).len) {f : AW → Prop}
    (H : ∀ h' μ' ρ2 cc aa ac ba bc, Own h' μ' ρ2 → Pcs ρ1 ρ2 (cc :: ns) (.var h.next [.int .i64 op, .slice aa args.length ac, .int .i64 kk, .slice ba body.len bc] :: rs) → ρ1 cc = none → Fra [] ρ' ρ2 → Vw ρ [] aa (strs args) → Ly ρ body ba → f h') :
    aP a fun m7 m8 => oB (natIdx z N) fun m9 => oB (AW.rd h m7 (m8 + m9 * 4)) fun v10 => vInt .i64 v10 fun n11 => oB (AW.rd h m7 (m8 + m9 * 4 + 1)) fun v12 => vSl v12 fun p13 m14 m15 => oB (AW.rd h m7 (m8 + m9 * 4 + 1 + 1)) fun v16 => vInt .i64 v16 fun n17 =>
      oB (AW.rd h m7 (m8 + m9 * 4 + 1 + 1 + 1)) fun v18 => vSl v18 fun p19 m20 m21 => oB (AW.wrL (AW.addVar h [.int .i64 0, .slice none 0 0, .int .i64 0, .slice none 0 0]) (AW.next h) 0 [.int .i64 n11, .slice p13 m14 m15, .int .i64 n17, .slice p19 m20 m21]) f := by
  obtain ⟨aa, ac, ba, bc, bcells, v1, v2, v3, c0, c1, c2, c3⟩ := lies_at L
  refine ((X.keep F0).sl O).ix (sz := 4) hz (by rw [hN]; exact L.len) (by omega) (by rw [hN]; exact app_lt) fun i off ea hr => ?_
  have r0 := hr 0 (by omega)
  rw [Nat.add_zero, Nat.add_zero] at r0
  refine oB_bind (r0.trans c0) ?_
  simp only [vInt_int]
  refine oB_bind ((hr 1 (by omega)).trans c1) ?_
  simp only [vSl_slice]
  refine oB_bind ((hr 2 (by omega)).trans c2) ?_
  simp only [vInt_int]
  refine oB_bind ((hr 3 (by omega)).trans c3) ?_
  simp only [vSl_slice]
  refine w_copyF O W rfl rfl rfl fun h1 μ1 ρ1 cc O1 W1 hc F1 => ?_
  exact H h1 μ1 ρ1 cc aa ac ba bc O1 W1 hc F1 v1 ⟨_, v2, v3⟩
/-- What the loop over some statements does. -/
def LL (rest : F) : Prop := ∀ ⦃ρ : Store⦄ ⦃cm : Nat⦄, Vw ρ [] (some ⟨2, 0, none⟩) pow10 → ρ cm = none → ∀ ⦃h : AW⦄ ⦃μ : Paint⦄ ⦃ρ1 ρ' : Store⦄ ⦃co : Nat⦄ ⦃oa : Option Addr⦄ ⦃oc : Nat⦄ ⦃acc : List Wds⦄ ⦃vs : List (Option Addr × Nat × Nat × List Value)⦄ ⦃Q : Value → AW → Prop⦄ ⦃pre : F⦄ ⦃a : Option Addr⦄ ⦃c : List Value⦄ ⦃cap : Nat⦄,
    Own h μ ρ' → Pcs ρ1 ρ' [co, cm] [.sl oa oc 1 (acc.map Wds.cell), .many vs] → ρ1 co = none → Fra [] ρ ρ1 → Vw ρ [] a c → Lies (Vw ρ []) (pre.app rest) c → (pre.app rest).len ≤ 140737488355328 → rest.wf = true → Slim rest → acc.length + rest.lines.length ≤ 1000000 → Built vs acc →
    (∀ h' μ' ρ2 oa' oc' acc' vs', Own h' μ' ρ2 → Pcs ρ1 ρ2 [co, cm] [.sl oa' oc' 1 (acc'.map Wds.cell), .many vs'] → Built vs' acc' → acc'.map Wds.x = acc.map Wds.x ++ rest.lines → (∀ x, x ∈ vs → x ∈ vs') → Q (.slice oa' acc'.length oc') h') →
    unitAt P f_action_lines 3 [3, 7, 8, 9] [.slice oa acc.length oc, .slice a (pre.app rest).len cap, .int .i64 ((pre.app rest).len : Int), .int .i64 (pre.len : Int)] h Q
theorem lines_8 {k m : Nat} {args : List Str} {body rest : F} (IB : LL body) (IR : LL rest) {cm : Nat} (T : Vw ρ [] (some ⟨2, 0, none⟩) pow10) (hcm : ρ cm = none) {ρ1 ρ' : Store} {co cx cn p na nc ac bc oc cap : Nat} {oa aa ba a nx : Option Addr} {acc : List Wds} {vs : List (Option Addr × Nat × Nat × List Value)} {pre : F} {c : List Value}
    (O : Own h μ ρ') (W : Pcs ρ1 ρ' [cn, cx, co, cm] [.sl nx nc 1 (strs (lineM k args m)), .var p [.int .i64 k, .slice aa args.length ac, .int .i64 m, .slice ba body.len bc], .sl oa oc 1 (acc.map Wds.cell), .many vs]) (hcn : ρ1 cn = none) (hcx : ρ1 cx = none) (hco : ρ1 co = none) (Fr : Fra [] ρ ρ1)
    (X : Vw ρ [] a c) (L : Lies (Vw ρ []) (pre.app (.cons k args m body rest)) c) (Lb : Ly ρ body ba) (hl : (pre.app (.cons k args m body rest)).len ≤ 140737488355328) (hbl : body.len ≤ 140737488355328) (hw : (F.cons k args m body rest).wf = true) (hs : Slim (.cons k args m body rest)) (hn : acc.length + (F.cons k args m body rest).lines.length ≤ 1000000) (B : Built vs acc) (hnx : na = (lineM k args m).length)
    (hq : ∀ h' μ' ρ2 oa' oc' acc' vs', Own h' μ' ρ2 → Pcs ρ1 ρ2 [co, cm] [.sl oa' oc' 1 (acc'.map Wds.cell), .many vs'] → Built vs' acc' → acc'.map Wds.x = acc.map Wds.x ++ (F.cons k args m body rest).lines → (∀ x, x ∈ vs → x ∈ vs') → Q (.slice oa' acc'.length oc') h') :
    unitAt P f_action_lines 8 [3, 5, 6, 7, 8, 9] [.slice oa acc.length oc, .pointer (some ⟨p, 0, none⟩), .slice nx na nc, .slice a (pre.app (.cons k args m body rest)).len cap, .int .i64 ((pre.app (.cons k args m body rest)).len : Int), .int .i64 (pre.len : Int)] h Q := by
  subst hnx
  have hlt : pre.len < (pre.app (.cons k args m body rest)).len := app_lt
  simp only [F.wf, Bool.and_eq_true] at hw
  obtain ⟨⟨⟨w1, w2⟩, w3⟩, w4⟩ := hw
  obtain ⟨s1, s2, s3⟩ := hs
  have hlines : (F.cons (k : Int) args (m : Int) body rest).lines = lineM k args m :: ((if opensM k = true then body.lines ++ [[wEnd]] else []) ++ rest.lines) := rfl
  rw [hlines] at hn hq
  simp only [List.length_cons, List.length_append] at hn
  obtain ⟨e3, e4⟩ := snocs pre k args m body
  have hcap : (lineM (k : Int) args (m : Int)).length ≤ nc := by have := w_cap O W 0 rfl; simpa using this
  refine r_action_lines_8 ?_
  obtain ⟨μ1, ρ2, O1, W1⟩ := w_into O W hcn 2 rfl
  obtain ⟨μ2, ρ3, ch, O2, W2, hch⟩ := w_block O1 W1 [.slice nx (lineM (k : Int) args (m : Int)).length nc] (n := 1) (sz := 1) rfl rfl
  refine w_app (P := P) O2 W2 2 (n := acc.length) (m := 1) ti_ty_sl_sl_string ti_ty_sl_string (by decide) rfl (by simp) (w_sl O2 W2 0 rfl) rfl rfl (by omega) (by omega) fun oa1 oc1 h2 μ4 ρ5 O4 W4 => ?_
  have W5 := W4.tail hch
  have W6 : Pcs ρ1 ρ5 [cx, co, cm] [.var p [.int .i64 k, .slice aa args.length ac, .int .i64 m, .slice ba body.len bc], .sl oa1 oc1 1 ((acc ++ [(⟨nx, nc, lineM k args m⟩ : Wds)]).map Wds.cell), .many ((nx, nc, 1, strs (lineM k args m)) :: vs)] := W5.eq (by simp [Wds.cell])
  have B1 := B.snoc (p := ⟨nx, nc, lineM k args m⟩) hcap
  simp only [oB_some, bC_true, bC_false, vInt_int, vBool_bool, vStr_string, vPtr_pointer, vSl_slice, vMap_map, vFun_func, vAgg_agg, vTup_tuple, vIfc_nil, vIfc_iface, lC_cons, lN_nil, aP_some, shO_none, shO_some, Option.isNone_none, Option.isNone_some, Bool.not_true, Bool.not_false]
  refine w_rd O4 W6 0 (j := 0) rfl rfl ?_
  simp only [oB_some, bC_true, bC_false, vInt_int, vBool_bool, vStr_string, vPtr_pointer, vSl_slice, vMap_map, vFun_func, vAgg_agg, vTup_tuple, vIfc_nil, vIfc_iface, lC_cons, lN_nil, aP_some, shO_none, shO_some, Option.isNone_none, Option.isNone_some, Bool.not_true, Bool.not_false]
  refine opens_ok ?_
  simp only [oB_some, bC_true, bC_false, vInt_int, vBool_bool, vStr_string, vPtr_pointer, vSl_slice, vMap_map, vFun_func, vAgg_agg, vTup_tuple, vIfc_nil, vIfc_iface, lC_cons, lN_nil, aP_some, shO_none, shO_some, Option.isNone_none, Option.isNone_some, Bool.not_true, Bool.not_false]
  rw [wrapS (by omega)]
  have hnm : ∀ c, c ∈ [cx, co, cm] → ρ c = none := fun c hc => by
    simp at hc; rcases hc with rfl | rfl | rfl
    · exact Fr.none0 hcx
    · exact Fr.none0 hco
    · exact hcm
  refine bC_iff (fun ho => ?_) (fun ho => ?_)
  · rw [ho] at hn hq
    simp only [if_true, List.length_append, List.length_cons, List.length_nil] at hn hq
    refine w_rd O4 W6 0 (j := 3) rfl rfl ?_
    simp only [oB_some, bC_true, bC_false, vInt_int, vBool_bool, vStr_string, vPtr_pointer, vSl_slice, vMap_map, vFun_func, vAgg_agg, vTup_tuple, vIfc_nil, vIfc_iface, lC_cons, lN_nil, aP_some, shO_none, shO_some, Option.isNone_none, Option.isNone_some, Bool.not_true, Bool.not_false]
    refine r_action_lines ?_
    obtain ⟨ρ7, cb, O6, W7, hcb⟩ := w_nil O4 W6.self.tail'.tail' 1
    have F6 : Fra [] ρ ρ5 := Fr.via W6.fra hnm
    obtain ⟨bcells, bX, bL⟩ := Lb
    refine IB T hcm (acc := []) (pre := .nil) O6 W7 hcb F6 bX bL hbl w3 s2 (by simp only [List.length_nil]; omega) Built.nil fun h7 μ7 ρ8 ba2 bc2 accb vs2 O7 W8 B2 e2 hmore => ?_
    simp only [List.map_nil, List.nil_append] at e2
    have hlb : accb.length = body.lines.length := by have := congrArg List.length e2; simpa using this
    simp only [oB_some, bC_true, bC_false, vInt_int, vBool_bool, vStr_string, vPtr_pointer, vSl_slice, vMap_map, vFun_func, vAgg_agg, vTup_tuple, vIfc_nil, vIfc_iface, lC_cons, lN_nil, aP_some, shO_none, shO_some, Option.isNone_none, Option.isNone_some, Bool.not_true, Bool.not_false]
    have W9 := W6.call1 (fs := [cx, co]) (ms := [cm]) (xs := [_, _]) rfl W8 hcb
    have hcb1 : ρ1 cb = none := W6.not0 hcb
    refine w_app (P := P) O7 W9 2 (n := acc.length + 1) (m := accb.length) ti_ty_sl_sl_string ti_ty_sl_string (by decide) rfl (by simp) (w_sl O7 W9 0 rfl) (by simp) (allOne_cells _) (by omega) (by omega) fun oa3 oc3 h8 μ8 ρ9 O8 W10 => ?_
    have W11 := W10.tail hcb1
    have W12 : Pcs ρ1 ρ9 [cx, co, cm] [.var p [.int .i64 k, .slice aa args.length ac, .int .i64 m, .slice ba body.len bc], .sl oa3 oc3 1 ((acc ++ [(⟨nx, nc, lineM k args m⟩ : Wds)] ++ accb).map Wds.cell), .many vs2] := W11.eq (by simp)
    have B3 : Built vs2 (acc ++ [(⟨nx, nc, lineM k args m⟩ : Wds)] ++ accb) := (B1.more hmore).app B2
    simp only [oB_some, bC_true, bC_false, vInt_int, vBool_bool, vStr_string, vPtr_pointer, vSl_slice, vMap_map, vFun_func, vAgg_agg, vTup_tuple, vIfc_nil, vIfc_iface, lC_cons, lN_nil, aP_some, shO_none, shO_some, Option.isNone_none, Option.isNone_some, Bool.not_true, Bool.not_false]
    rw [show acc.length + 1 + accb.length = (acc ++ [(⟨nx, nc, lineM k args m⟩ : Wds)] ++ accb).length from by simp; omega]
    refine app_line O8 W12 1 2 (by decide) rfl rfl [wEnd] (by simp; omega) fun h9 μ9 ρ10 oa4 oc4 q hq1 hq2 O9 W13 => ?_
    simp only [oB_some, bC_true, bC_false, vInt_int, vBool_bool, vStr_string, vPtr_pointer, vSl_slice, vMap_map, vFun_func, vAgg_agg, vTup_tuple, vIfc_nil, vIfc_iface, lC_cons, lN_nil, aP_some, shO_none, shO_some, Option.isNone_none, Option.isNone_some, Bool.not_true, Bool.not_false]
    have W14 := W13.tail hcx
    have B4 := B3.snoc (p := q) (by rw [hq1, hq2]; decide)
    rw [← e3] at L hl ⊢
    rw [← e4, show (acc ++ [(⟨nx, nc, lineM k args m⟩ : Wds)] ++ accb).length + 1 = (acc ++ [(⟨nx, nc, lineM k args m⟩ : Wds)] ++ accb ++ [q]).length from by simp; omega]
    refine IR T hcm O9 W14 hco Fr X L hl w4 s3 (by simp; omega) B4 fun h' μ' ρ' oa' oc' acc' vs' O' W' B' e' hm' => ?_
    refine hq h' μ' ρ' oa' oc' acc' vs' O' W' B' ?_ fun x hx => hm' _ (List.mem_cons_of_mem _ (hmore _ (List.mem_cons_of_mem _ hx)))
    rw [e']
    simp [hq1, e2]
  · rw [ho] at hn hq
    simp only [Bool.false_eq_true, if_false, List.length_nil, List.nil_append] at hn hq
    rw [← e3] at L hl ⊢
    rw [← e4, show acc.length + 1 = (acc ++ [(⟨nx, nc, lineM k args m⟩ : Wds)]).length from by simp]
    refine IR T hcm O4 (W6.tail hcx) hco Fr X L hl w4 s3 (by simp; omega) B1 fun h' μ' ρ' oa' oc' acc' vs' O' W' B' e' hm' => ?_
    refine hq h' μ' ρ' oa' oc' acc' vs' O' W' B' ?_ fun x hx => hm' _ (List.mem_cons_of_mem _ hx)
    rw [e']
    simp
theorem lines_loop : ∀ rest : F, LL rest
  | .nil => by
    intro ρ cm T hcm h μ ρ1 ρ' co oa oc acc vs Q pre a c cap O W hco Fr X L hl hw hs hn B hq
    refine r_action_lines_3 ?_
    rw [F.app_nil, geI (Nat.le_refl _)]
    simp only [oB_some, bC_true, bC_false, vInt_int, vBool_bool, vStr_string, vPtr_pointer, vSl_slice, vMap_map, vFun_func, vAgg_agg, vTup_tuple, vIfc_nil, vIfc_iface, lC_cons, lN_nil, aP_some, shO_none, shO_some, Option.isNone_none, Option.isNone_some, Bool.not_true, Bool.not_false]
    exact hq _ _ _ _ _ acc vs O W B (by simp [F.lines]) fun _ x => x
  | .cons op args kk body rest => by
    intro ρ cm T hcm h μ ρ1 ρ' co oa oc acc vs Q pre a c cap O W hco Fr X L hl hw hs hn B hq
    have hlt : pre.len < (pre.app (.cons op args kk body rest)).len := app_lt
    have w1 : F.fine op args.length kk = true := by
      have := hw; simp only [F.wf, Bool.and_eq_true] at this; exact this.1.1.1
    unfold F.fine at w1
    simp only [Bool.and_eq_true, Bool.or_eq_true, decide_eq_true_eq] at w1
    obtain ⟨⟨⟨⟨⟨k1, k2⟩, k3⟩, k4⟩, k5⟩, k6⟩ := w1
    obtain ⟨k, rfl⟩ : ∃ k : Nat, op = k := ⟨op.toNat, by omega⟩
    obtain ⟨m, rfl⟩ : ∃ m : Nat, kk = m := ⟨kk.toNat, by omega⟩
    have hal := hs.1
    have hnm : ∀ c, c ∈ [co, cm] → ρ c = none := fun c hc => by
      simp at hc; rcases hc with rfl | rfl
      · exact Fr.none0 hco
      · exact hcm
    have F0 : Fra [] ρ ρ' := Fr.via W.fra hnm
    refine r_action_lines_3 ?_
    rw [ltI hlt]
    simp only [oB_some, bC_true, bC_false, vInt_int, vBool_bool, vStr_string, vPtr_pointer, vSl_slice, vMap_map, vFun_func, vAgg_agg, vTup_tuple, vIfc_nil, vIfc_iface, lC_cons, lN_nil, aP_some, shO_none, shO_some, Option.isNone_none, Option.isNone_some, Bool.not_true, Bool.not_false]
    refine st_copyB O F0 X L W rfl rfl fun h1 μ1 ρx cx aa ac ba bc O1 W1 hcx F1 va la => ?_
    have hcx0 : ρ cx = none := Fr.none0 hcx
    have hnm1 : ∀ c, c ∈ [cx, co, cm] → ρ c = none := fun c hc => by
      rcases List.mem_cons.1 hc with rfl | hc
      · exact hcx0
      · exact hnm c hc
    refine w_rd O1 W1 0 (j := 0) rfl rfl ?_
    simp only [oB_some, bC_true, bC_false, vInt_int, vBool_bool, vStr_string, vPtr_pointer, vSl_slice, vMap_map, vFun_func, vAgg_agg, vTup_tuple, vIfc_nil, vIfc_iface, lC_cons, lN_nil, aP_some, shO_none, shO_some, Option.isNone_none, Option.isNone_some, Bool.not_true, Bool.not_false]
    refine word_ok O1 (by omega) fun h2 μ2 ρ2 O2 F2 => ?_
    have W2 := W1.keep0 F2
    simp only [oB_some, bC_true, bC_false, vInt_int, vBool_bool, vStr_string, vPtr_pointer, vSl_slice, vMap_map, vFun_func, vAgg_agg, vTup_tuple, vIfc_nil, vIfc_iface, lC_cons, lN_nil, aP_some, shO_none, shO_some, Option.isNone_none, Option.isNone_some, Bool.not_true, Bool.not_false]
    obtain ⟨μ3, ρ3, cn, O3, W3, hcn⟩ := w_block O2 W2 (strs [wordM k]) (n := 1) (sz := 1) rfl rfl
    have hnm3 : ∀ c, c ∈ [cn, cx, co, cm] → ρ c = none := fun c hc => by
      rcases List.mem_cons.1 hc with rfl | hc
      · exact Fr.none0 hcn
      · exact hnm1 c hc
    have F3 : Fra [] ρ ρ3 := Fr.via W3.fra hnm3
    repeat (first | refine ⟨rfl, ?_⟩ | refine ⟨trivial, ?_⟩ | simp only [oB_some, bC_true, bC_false, vInt_int, vBool_bool, vStr_string, vPtr_pointer, vSl_slice, vMap_map, vFun_func, vAgg_agg, vTup_tuple, vIfc_nil, vIfc_iface, lC_cons, lN_nil, aP_some, shO_none, shO_some, Option.isNone_none, Option.isNone_some, Bool.not_true, Bool.not_false] | refine w_rd (by assumption) (by assumption) 0 (by rfl) (by rfl) ?_ | refine w_rd (by assumption) (by assumption) 1 (by rfl) (by rfl) ?_ | refine w_wrL (by assumption) (by assumption) 0 (by rfl) (Nat.le_of_ble_eq_true (by rfl)) (by rfl) fun h ρz O W => ?_ | refine w_wrL (by assumption) (by assumption) 1 (by rfl) (Nat.le_of_ble_eq_true (by rfl)) (by rfl) fun h ρz O W => ?_ | refine w_wr (by assumption) (by assumption) 0 (by rfl) (Nat.le_of_ble_eq_true (by rfl)) (by rfl) fun h ρz O W => ?_ | refine w_wr (by assumption) (by assumption) 1 (by rfl) (Nat.le_of_ble_eq_true (by rfl)) (by rfl) fun h ρz O W => ?_)
    refine w_app (P := P) O3 W3 0 (n := 1) (m := args.length) ti_ty_sl_string ti_ty_string (by decide) rfl rfl ((va.keep F3).sl O3) (by simp) allOne_strs (by omega) (by omega) fun nx nc h4 μ4 ρ4 O4 W4 => ?_
    have hbl : body.len ≤ 140737488355328 := by
      have := len_lines body
      have w2 : (opensM k || decide (body.len = 0)) = true := by
        have := hw; simp only [F.wf, Bool.and_eq_true] at this; exact this.1.1.2
      cases ho : opensM (k : Int) with
      | true =>
        simp only [F.lines, ho, if_true, List.length_cons, List.length_append] at hn
        omega
      | false =>
        rw [ho] at w2
        simp at w2
        omega
    repeat (first | refine ⟨rfl, ?_⟩ | refine ⟨trivial, ?_⟩ | simp only [oB_some, bC_true, bC_false, vInt_int, vBool_bool, vStr_string, vPtr_pointer, vSl_slice, vMap_map, vFun_func, vAgg_agg, vTup_tuple, vIfc_nil, vIfc_iface, lC_cons, lN_nil, aP_some, shO_none, shO_some, Option.isNone_none, Option.isNone_some, Bool.not_true, Bool.not_false] | refine w_rd (by assumption) (by assumption) 0 (by rfl) (by rfl) ?_ | refine w_rd (by assumption) (by assumption) 1 (by rfl) (by rfl) ?_ | refine w_wrL (by assumption) (by assumption) 0 (by rfl) (Nat.le_of_ble_eq_true (by rfl)) (by rfl) fun h ρz O W => ?_ | refine w_wrL (by assumption) (by assumption) 1 (by rfl) (Nat.le_of_ble_eq_true (by rfl)) (by rfl) fun h ρz O W => ?_ | refine w_wr (by assumption) (by assumption) 0 (by rfl) (Nat.le_of_ble_eq_true (by rfl)) (by rfl) fun h ρz O W => ?_ | refine w_wr (by assumption) (by assumption) 1 (by rfl) (Nat.le_of_ble_eq_true (by rfl)) (by rfl) fun h ρz O W => ?_)
    have F4 : Fra [] ρ ρ4 := Fr.via W4.fra hnm3
    refine bC_iff (fun e10 => ?_) (fun e10 => ?_)
    · have e10 : k = 10 := by have := eqI e10; omega
      refine w_rd O4 W4 1 (j := 2) rfl rfl ?_
      simp only [oB_some, bC_true, bC_false, vInt_int, vBool_bool, vStr_string, vPtr_pointer, vSl_slice, vMap_map, vFun_func, vAgg_agg, vTup_tuple, vIfc_nil, vIfc_iface, lC_cons, lN_nil, aP_some, shO_none, shO_some, Option.isNone_none, Option.isNone_some, Bool.not_true, Bool.not_false]
      refine itoa_ok O4 (T.keep F4) (n := m) (by omega) fun h5 μ5 ρ5 O5 F5 => ?_
      have W5 := W4.keep0 F5
      simp only [oB_some, bC_true, bC_false, vInt_int, vBool_bool, vStr_string, vPtr_pointer, vSl_slice, vMap_map, vFun_func, vAgg_agg, vTup_tuple, vIfc_nil, vIfc_iface, lC_cons, lN_nil, aP_some, shO_none, shO_some, Option.isNone_none, Option.isNone_some, Bool.not_true, Bool.not_false]
      obtain ⟨μ6, ρ6, c6, O6, W6, hc6⟩ := w_block O5 W5 (strs [digS m]) (n := 1) (sz := 1) rfl rfl
      refine w_app (P := P) O6 W6 1 (n := 1 + args.length) (m := 1) ti_ty_sl_string ti_ty_string (by decide) rfl (by simp; omega) (w_sl O6 W6 0 rfl) rfl rfl (by omega) (by omega) fun nx nc h7 μ7 ρ7 O7 W7 => ?_
      simp only [oB_some, bC_true, bC_false, vInt_int, vBool_bool, vStr_string, vPtr_pointer, vSl_slice, vMap_map, vFun_func, vAgg_agg, vTup_tuple, vIfc_nil, vIfc_iface, lC_cons, lN_nil, aP_some, shO_none, shO_some, Option.isNone_none, Option.isNone_some, Bool.not_true, Bool.not_false]
      have el : lineM (k : Int) args (m : Int) = [wordM k] ++ args ++ [digS m] := by
        unfold lineM; rw [if_pos (by omega)]; simp
      have W8 : Pcs ρ1 ρ7 [cn, cx, co, cm] [.sl nx nc 1 (strs (lineM k args m)), .var (AW.next h) [.int .i64 k, .slice aa args.length ac, .int .i64 m, .slice ba body.len bc], .sl oa oc 1 (acc.map Wds.cell), .many vs] := (W7.tail hc6).eq (by rw [el]; simp [strs])
      refine lines_8 (lines_loop body) (lines_loop rest) T hcm O7 W8 hcn hcx hco Fr X L la hl hbl hw hs hn B (by rw [el]; simp; omega) hq
    · have e10 : k ≠ 10 := by have := neI e10; omega
      have el : lineM (k : Int) args (m : Int) = [wordM k] ++ args := by
        unfold lineM; rw [if_neg (by omega)]; simp
      have W8 : Pcs ρ1 ρ4 [cn, cx, co, cm] [.sl nx nc 1 (strs (lineM k args m)), .var (AW.next h) [.int .i64 k, .slice aa args.length ac, .int .i64 m, .slice ba body.len bc], .sl oa oc 1 (acc.map Wds.cell), .many vs] := W4.eq (by rw [el]; simp [strs])
      refine lines_8 (lines_loop body) (lines_loop rest) T hcm O4 W8 hcn hcx hco Fr X L la hl hbl hw hs hn B (by rw [el]; simp; omega) hq
/-- The lines of statements. -/
theorem lines_ok (O : Own h μ ρ) (T : Vw ρ [] (some ⟨2, 0, none⟩) pow10) {f : F} {a : Option Addr} {cap : Nat} (X : Ly ρ f a) (hl : f.len ≤ 140737488355328) (hw : f.wf = true) (hs : Slim f) (hn : f.lines.length ≤ 1000000)
    (H : ∀ h' μ' ρ' co cm oa oc ps vs, Own h' μ' ρ' → Pcs ρ ρ' [co, cm] [.sl oa oc 1 (ps.map Wds.cell), .many vs] → ρ co = none → ρ cm = none → Built vs ps → ps.map Wds.x = f.lines → Q (.slice oa ps.length oc) h') : EvQ P f_action_lines [.slice a f.len cap] h Q := by
  refine r_action_lines ?_
  obtain ⟨c, X, L⟩ := X
  obtain ⟨ρ1, cm, O1, W1, hcm⟩ := w_many O (p00 (ρ := ρ))
  have W1' : Pcs ρ1 ρ1 [cm] [.many []] := W1.self
  obtain ⟨ρ2, co, O2, W2, hco⟩ := w_nil O1 W1' 1
  have F1 : Fra [] ρ ρ1 := W1.fra0 fun c hc => by simp at hc; rw [hc]; exact hcm
  refine lines_loop f (pre := .nil) (acc := []) T hcm O2 W2 hco F1 X L hl hw hs (by simp; omega) Built.nil fun h' μ' ρ' oa' oc' acc' vs' O' W' B' e' _ => ?_
  have hco0 : ρ co = none := Fra.none0 F1 hco
  have W3 : Pcs ρ ρ' [co, cm] [.sl oa' oc' 1 (acc'.map Wds.cell), .many vs'] := ⟨W'.nodup, W'.len, W'.at_, fun c r hn hc => W'.fra c r hn (F1 c r (by simp) hc)⟩
  exact H _ _ _ _ _ _ _ _ _ O' W3 hco0 hcm B' (by simpa using e')
/-- .. if it may be. -/
theorem linesB_ok (O : Own h μ ρ) (T : Vw ρ [] (some ⟨2, 0, none⟩) pow10) {f : F} {a : Option Addr} {cap : Nat} (X : Ly ρ f a) (hl : f.len ≤ 140737488355328) (hz : f.size ≤ 1000000000) (hs : Slim f)
    (H1 : f.may = false → RdQ Q ρ (.tuple ⟨[.slice none 0 0, .int .i64 2]⟩))
    (H : f.may = true → ∀ h' μ' ρ' co cm oa oc ps vs, Own h' μ' ρ' → Pcs ρ ρ' [co, cm] [.sl oa oc 1 (ps.map Wds.cell), .many vs] → ρ co = none → ρ cm = none → Built vs ps → ps.map Wds.x = f.lines → Q (.tuple ⟨[.slice oa ps.length oc, .int .i64 0]⟩) h') : EvQ P f_action_Lines [.slice a f.len cap] h Q := by
  refine r_action_Lines ?_
  refine may_ok O X hz fun h1 μ1 ρ1 O1 F1 => ?_
  simp only [oB_some, bC_true, bC_false, vInt_int, vBool_bool, vStr_string, vPtr_pointer, vSl_slice, vMap_map, vFun_func, vAgg_agg, vTup_tuple, vIfc_nil, vIfc_iface, lC_cons, lN_nil, aP_some, shO_none, shO_some, Option.isNone_none, Option.isNone_some, Bool.not_true, Bool.not_false]
  refine bC_iff (fun e => ?_) (fun e => ?_)
  · exact H1 (nb e) h1 μ1 ρ1 O1 F1
  have e := nb' e
  obtain ⟨m1, m2, m3⟩ := F.may_iff.1 e
  have hlen := F.lines_len f
  refine lines_ok O1 (T.keep F1) (X.keep F1) hl m1 hs (by omega) fun h' μ' ρ' co cm oa oc ps vs O' W' hco hcm B' e' => ?_
  simp only [oB_some, bC_true, bC_false, vInt_int, vBool_bool, vStr_string, vPtr_pointer, vSl_slice, vMap_map, vFun_func, vAgg_agg, vTup_tuple, vIfc_nil, vIfc_iface, lC_cons, lN_nil, aP_some, shO_none, shO_some, Option.isNone_none, Option.isNone_some, Bool.not_true, Bool.not_false]
  have W3 : Pcs ρ ρ' [co, cm] [.sl oa oc 1 (ps.map Wds.cell), .many vs] := ⟨W'.nodup, W'.len, W'.at_, fun c r hn hc => W'.fra c r hn (F1 c r (by simp) hc)⟩
  exact H e _ _ _ _ _ _ _ _ _ O' W3 (Fra.none0 F1 hco) (Fra.none0 F1 hcm) B' e'
end Go.Proofs.YtgdkekdedgkglaaDoor
end

section
/- Rules of walks, printed by a program of ours: group ALaw. -/
namespace Go.Proofs.YtgdkekdedgkglaaDoor
open Go.Abs
set_option maxRecDepth 100000
theorem r_brickyardlaw13_ActionBack {p1 : Option Addr} {m2 : Nat} {m3 : Nat} {h : AW} {Q : Value → AW → Prop} (H : EvQ P f_brickyardlaw13_works [] h fun v4 h5 => vBool v4 fun b6 => bC (!b6) (Q (Value.bool false) h5)
  (EvQ P f_brickyardlaw13_wide [Value.slice p1 m2 m3] h5 fun v7 h8 => vBool v7 fun b9 => bC b9 (Q (Value.bool true) h8) (EvQ P f_action_Parse [Value.slice p1 m2 m3] h8 fun v10 h11 => vTup v10 fun l12 => lC
  l12 fun v13 l14 => vSl v13 fun p15 m16 m17 => lC l14 fun v18 l19 => vAgg v18 fun l20 => lC l20 fun v21 l22 => vInt IntKind.i64 v21 fun n23 => lC l22 fun v24 l25 => vInt
  IntKind.i64 v24 fun n26 => lN l25 (lN l19 (oB (AW.wrL (AW.addVar h11 [Value.int IntKind.i64 0, Value.int IntKind.i64 0]) (AW.next h11) 0 [Value.int IntKind.i64 n23, Value.int
  IntKind.i64 n26]) fun h27 => oB (AW.rd h27 (AW.next h11) 0) fun v28 => vInt IntKind.i64 v28 fun n29 => oB (AW.rd h27 (AW.next h11) 1) fun v30 => vInt IntKind.i64 v30 fun n31 =>
  bC (!(n29 == 0 && (n31 == 0 && true))) (bC ((↑m16 : Int) == 0) (oB (AW.rd h27 (AW.next h11) 0) fun v32 => vInt IntKind.i64 v32 fun n33 => bC (n33 != 0) (oB (AW.rd h27 (AW.next
  h11) 1) fun v34 => vInt IntKind.i64 v34 fun n35 => bC (decide (n35 ≥ 0)) (oB (AW.rd h27 (AW.next h11) 1) fun v36 => vInt IntKind.i64 v36 fun n37 => Q (Value.bool (decide (n37 ≤
  (↑m2 : Int)))) h27) (Q (Value.bool false) h27)) (Q (Value.bool false) h27)) (Q (Value.bool false) h27)) (EvQ P f_action_Lines [Value.slice p15 m16 m17] h27 fun v38 h39 => vTup v38 fun l40
  => lC l40 fun v41 l42 => vSl v41 fun p43 m44 m45 => lC l42 fun v46 l47 => vInt IntKind.i64 v46 fun n48 => lN l47 (EvQ P f_action_Print [Value.slice p15 m16 m17] h39 fun v49 h50 => vTup v49
  fun l51 => lC l51 fun v52 l53 => vStr v52 fun s54 => lC l53 fun v55 l56 => vInt IntKind.i64 v55 fun n57 => lN l56 (EvQ P f_action_May [Value.slice p15 m16 m17] h50 fun v58 h59 => vBool
  v58 fun b60 => bC (!b60) (Q (Value.bool false) h59) (bC (n48 != 0) (Q (Value.bool false) h59) (bC (n57 != 0) (Q (Value.bool false) h59) (EvQ P f_brickyardref13_Alike [Value.slice p43 m44 m45,
  Value.slice p1 m2 m3] h59 fun v61 h62 => vBool v61 fun b63 => bC (!b63) (Q (Value.bool false) h62) (EvQ P f_action_Parse [Value.slice p43 m44 m45] h62 fun v64 h65 => vTup v64 fun l66 => lC
  l66 fun v67 l68 => vSl v67 fun p69 m70 m71 => lC l68 fun v72 l73 => vAgg v72 fun l74 => lC l74 fun v75 l76 => vInt IntKind.i64 v75 fun n77 => lC l76 fun v78 l79 => vInt
  IntKind.i64 v78 fun n80 => lN l79 (lN l73 (oB (AW.wrL (AW.addVar h65 [Value.int IntKind.i64 0, Value.int IntKind.i64 0]) (AW.next h65) 0 [Value.int IntKind.i64 n77, Value.int
  IntKind.i64 n80]) fun h81 => oB (AW.rd h81 (AW.next h65) 0) fun v82 => vInt IntKind.i64 v82 fun n83 => oB (AW.rd h81 (AW.next h65) 1) fun v84 => vInt IntKind.i64 v84 fun n85 =>
  bC (!(n83 == 0 && (n85 == 0 && true))) (Q (Value.bool false) h81) (EvQ P f_action_Same [Value.slice p15 m16 m17, Value.slice p69 m70 m71] h81 fun v86 h87 => vBool v86 fun b88 => bC (!b88)
  (Q (Value.bool false) h87) (bC (decide ((↑(ByteArray.size s54) : Int) > 32768)) (Q (Value.bool true) h87) (EvQ P f_lex_Lines [Value.string s54] h87 fun v89 h90 => vTup v89 fun l91 => lC
  l91 fun v92 l93 => vSl v92 fun p94 m95 m96 => lC l93 fun v97 l98 => vAgg v97 fun l99 => lC l99 fun v100 l101 => vInt IntKind.i64 v100 fun n102 => lC l101 fun v103 l104 => vInt
  IntKind.i64 v103 fun n105 => lN l104 (lN l98 (oB (AW.wrL (AW.addVar h90 [Value.int IntKind.i64 0, Value.int IntKind.i64 0]) (AW.next h90) 0 [Value.int IntKind.i64 n102, Value.int
  IntKind.i64 n105]) fun h106 => oB (AW.rd h106 (AW.next h90) 0) fun v107 => vInt IntKind.i64 v107 fun n108 => oB (AW.rd h106 (AW.next h90) 1) fun v109 => vInt IntKind.i64 v109 fun
  n110 => bC (!(n108 == 0 && (n110 == 0 && true))) (Q (Value.bool false) h106) (bC ((↑m95 : Int) != (↑m2 : Int)) (Q (Value.bool false) h106) (unitAt P f_brickyardlaw13_ActionBack 21 [0, 11, 13]
  [Value.slice p1 m2 m3, Value.slice p94 m95 m96, Value.int IntKind.i64 0] h106 Q))))))))))))))))))))) : EvQ P f_brickyardlaw13_ActionBack [Value.slice p1 m2 m3] h Q := fn_ok (n := 400) (ann := annOf
  [(21, [0, 11, 13]), (26, [0, 11, 13, 14])]) (Eq.mp (by kernel_rfl) H)
theorem r_brickyardlaw13_ActionBack_21 {p1 : Option Addr} {m2 : Nat} {m3 : Nat} {p4 : Option Addr} {m5 : Nat} {m6 : Nat} {n7 : Int} {h : AW} {Q : Value → AW → Prop} (H : bC (decide (n7 < (↑m2 : Int)))
  (aP p4 fun m8 m9 => oB (natIdx n7 m5) fun m10 => oB (AW.rd h m8 (m9 + m10 * 3 + 2)) fun v11 => vSl v11 fun p12 m13 m14 => aP p1 fun m15 m16 => oB (natIdx n7 m2) fun m17 => oB
  (AW.rd h m15 (m16 + m17 * 1)) fun v18 => vSl v18 fun p19 m20 m21 => bC ((↑m13 : Int) != (↑m20 : Int)) (Q (Value.bool false) h) (aP p4 fun m22 m23 => oB (natIdx n7 m5) fun m24 =>
  oB (AW.rd h m22 (m23 + m24 * 3 + 1)) fun v25 => vBool v25 fun b26 => bC b26 (Q (Value.bool false) h) (unitAt P f_brickyardlaw13_ActionBack 26 [0, 11, 13, 14] [Value.slice p1 m2 m3, Value.slice p4 m5
  m6, Value.int IntKind.i64 n7, Value.int IntKind.i64 0] h Q))) (Q (Value.bool true) h)) : unitAt P f_brickyardlaw13_ActionBack 21 [0, 11, 13] [Value.slice p1 m2 m3, Value.slice p4 m5 m6, Value.int
  IntKind.i64 n7] h Q := unit_ok (n := 400) (ann := annOf [(21, [0, 11, 13]), (26, [0, 11, 13, 14])]) (Eq.mp (by kernel_rfl) H)
theorem r_brickyardlaw13_ActionBack_26 {p1 : Option Addr} {m2 : Nat} {m3 : Nat} {p4 : Option Addr} {m5 : Nat} {m6 : Nat} {n7 : Int} {n8 : Int} {h : AW} {Q : Value → AW → Prop} (H : aP p1 fun m9 m10 =>
  oB (natIdx n7 m2) fun m11 => oB (AW.rd h m9 (m10 + m11 * 1)) fun v12 => vSl v12 fun p13 m14 m15 => bC (decide (n8 < (↑m14 : Int))) (aP p4 fun m16 m17 => oB (natIdx n7 m5) fun m18
  => oB (AW.rd h m16 (m17 + m18 * 3 + 2)) fun v19 => vSl v19 fun p20 m21 m22 => aP p20 fun m23 m24 => oB (natIdx n8 m21) fun m25 => oB (AW.rd h m23 (m24 + m25 * 5)) fun v26 => vStr
  v26 fun s27 => aP p1 fun m28 m29 => oB (natIdx n7 m2) fun m30 => oB (AW.rd h m28 (m29 + m30 * 1)) fun v31 => vSl v31 fun p32 m33 m34 => aP p32 fun m35 m36 => oB (natIdx n8 m33)
  fun m37 => oB (AW.rd h m35 (m36 + m37 * 1)) fun v38 => vStr v38 fun s39 => bC (!bEq s27 s39) (Q (Value.bool false) h) (aP p4 fun m40 m41 => oB (natIdx n7 m5) fun m42 => oB (AW.rd
  h m40 (m41 + m42 * 3 + 2)) fun v43 => vSl v43 fun p44 m45 m46 => aP p44 fun m47 m48 => oB (natIdx n8 m45) fun m49 => oB (AW.rd h m47 (m48 + m49 * 5 + 4)) fun v50 => vBool v50 fun
  b51 => bC b51 (Q (Value.bool false) h) (unitAt P f_brickyardlaw13_ActionBack 26 [0, 11, 13, 14] [Value.slice p1 m2 m3, Value.slice p4 m5 m6, Value.int IntKind.i64 n7, Value.int IntKind.i64
  (IntKind.wrap IntKind.i64 (n8 + 1))] h Q))) (unitAt P f_brickyardlaw13_ActionBack 21 [0, 11, 13] [Value.slice p1 m2 m3, Value.slice p4 m5 m6, Value.int IntKind.i64 (IntKind.wrap IntKind.i64 (n7 + 1))]
  h Q)) : unitAt P f_brickyardlaw13_ActionBack 26 [0, 11, 13, 14] [Value.slice p1 m2 m3, Value.slice p4 m5 m6, Value.int IntKind.i64 n7, Value.int IntKind.i64 n8] h Q := unit_ok (n := 400) (ann := annOf
  [(21, [0, 11, 13]), (26, [0, 11, 13, 14])]) (Eq.mp (by kernel_rfl) H)
theorem r_brickyardlaw13_wide {p1 : Option Addr} {m2 : Nat} {m3 : Nat} {h : AW} {Q : Value → AW → Prop} (H : unitAt P f_brickyardlaw13_wide 3 [0, 3, 4] [Value.slice p1 m2 m3, Value.int IntKind.i64 0, Value.int
  IntKind.i64 0] h Q) : EvQ P f_brickyardlaw13_wide [Value.slice p1 m2 m3] h Q := fn_ok (n := 400) (ann := annOf [(3, [0, 3, 4]), (7, [0, 3, 4, 5])]) (Eq.mp (by kernel_rfl) H)
theorem r_brickyardlaw13_wide_3 {p1 : Option Addr} {m2 : Nat} {m3 : Nat} {n4 : Int} {n5 : Int} {h : AW} {Q : Value → AW → Prop} (H : bC (decide (n5 < (↑m2 : Int))) (bC (decide (n4 < 262144))
  (unitAt P f_brickyardlaw13_wide 7 [0, 3, 4, 5] [Value.slice p1 m2 m3, Value.int IntKind.i64 (IntKind.wrap IntKind.i64 (n4 + 1)), Value.int IntKind.i64 n5, Value.int IntKind.i64 0] h Q) (Q
  (Value.bool (decide (n4 ≥ 262144))) h)) (Q (Value.bool (decide (n4 ≥ 262144))) h)) : unitAt P f_brickyardlaw13_wide 3 [0, 3, 4] [Value.slice p1 m2 m3, Value.int IntKind.i64 n4, Value.int
  IntKind.i64 n5] h Q := unit_ok (n := 400) (ann := annOf [(3, [0, 3, 4]), (7, [0, 3, 4, 5])]) (Eq.mp (by kernel_rfl) H)
theorem r_brickyardlaw13_wide_7 {p1 : Option Addr} {m2 : Nat} {m3 : Nat} {n4 : Int} {n5 : Int} {n6 : Int} {h : AW} {Q : Value → AW → Prop} (H : aP p1 fun m7 m8 => oB (natIdx n5 m2) fun m9 => oB
  (AW.rd h m7 (m8 + m9 * 1)) fun v10 => vSl v10 fun p11 m12 m13 => bC (decide (n6 < (↑m12 : Int))) (bC (decide (n4 < 262144)) (aP p1 fun m14 m15 => oB (natIdx n5 m2) fun m16 => oB
  (AW.rd h m14 (m15 + m16 * 1)) fun v17 => vSl v17 fun p18 m19 m20 => aP p18 fun m21 m22 => oB (natIdx n6 m19) fun m23 => oB (AW.rd h m21 (m22 + m23 * 1)) fun v24 => vStr v24 fun
  s25 => unitAt P f_brickyardlaw13_wide 7 [0, 3, 4, 5] [Value.slice p1 m2 m3, Value.int IntKind.i64 (IntKind.wrap IntKind.i64 (n4 + IntKind.wrap IntKind.i64 (1 + (↑(ByteArray.size s25) : Int)))),
  Value.int IntKind.i64 n5, Value.int IntKind.i64 (IntKind.wrap IntKind.i64 (n6 + 1))] h Q) (unitAt P f_brickyardlaw13_wide 3 [0, 3, 4] [Value.slice p1 m2 m3, Value.int IntKind.i64 n4, Value.int
  IntKind.i64 (IntKind.wrap IntKind.i64 (n5 + 1))] h Q)) (unitAt P f_brickyardlaw13_wide 3 [0, 3, 4] [Value.slice p1 m2 m3, Value.int IntKind.i64 n4, Value.int IntKind.i64 (IntKind.wrap IntKind.i64
  (n5 + 1))] h Q)) : unitAt P f_brickyardlaw13_wide 7 [0, 3, 4, 5] [Value.slice p1 m2 m3, Value.int IntKind.i64 n4, Value.int IntKind.i64 n5, Value.int IntKind.i64 n6] h Q := unit_ok (n := 400)
  (ann := annOf [(3, [0, 3, 4]), (7, [0, 3, 4, 5])]) (Eq.mp (by kernel_rfl) H)
end Go.Proofs.YtgdkekdedgkglaaDoor
end

section
/- What is played: how great lists and lines are. -/
namespace Go.Proofs.YtgdkekdedgkglaaDoor
open Go.Abs Go.Abs.Fo
set_option maxRecDepth 100000
attribute [local irreducible] unitAt EvQ
variable {h : AW} {μ : Paint} {ρ : Store} {Q : Value → AW → Prop}

theorem wide_words (O : Own h μ ρ) {ps : List Wds} {a : Option Addr} {cap : Nat} (X : Lns ρ ps a) (L : Long (ps.map Wds.x)) {j : Nat} (hj : j < ps.length) {n0 : Int}
    (ht : ∀ n, 0 ≤ n → n ≤ 262144 + 140737488355329 → n = wA 262144 ps[j].x n0 → unitAt P f_brickyardlaw13_wide 3 [0, 3, 4] [.slice a ps.length cap, .int .i64 n, .int .i64 ((j + 1 : Nat) : Int)] h Q) :
    ∀ (d k : Nat) (n : Int), ps[j].x.length - k = d → k ≤ ps[j].x.length → 0 ≤ n → n ≤ 262144 + 140737488355329 → wA 262144 (ps[j].x.drop k) n = wA 262144 ps[j].x n0 →
      unitAt P f_brickyardlaw13_wide 7 [0, 3, 4, 5] [.slice a ps.length cap, .int .i64 n, .int .i64 (j : Int), .int .i64 (k : Int)] h Q := by
  have hl := L.2 ps[j].x (List.mem_map_of_mem (List.getElem_mem hj))
  have hlen := L.1
  simp only [List.length_map] at hlen
  intro d
  induction d with
  | zero =>
    intro k n hd hk h0 h1 he
    have : k = ps[j].x.length := by omega
    subst this
    rw [List.drop_length] at he
    refine r_brickyardlaw13_wide_7 ?_
    refine ln_at O X rfl rfl hj fun V => ?_
    rw [geI (Nat.le_refl _)]
    simp only [oB_some, bC_true, bC_false, vInt_int, vBool_bool, vStr_string, vPtr_pointer, vSl_slice, vMap_map, vFun_func, vAgg_agg, vTup_tuple, vIfc_nil, vIfc_iface, lC_cons, lN_nil, aP_some, shO_none, shO_some, Option.isNone_none, Option.isNone_some, Bool.not_true, Bool.not_false]
    rw [wrapS (by omega)]
    exact ht n h0 h1 he
  | succ d ih =>
    intro k n hd hk h0 h1 he
    have hkl : k < ps[j].x.length := by omega
    refine r_brickyardlaw13_wide_7 ?_
    refine ln_at O X rfl rfl hj fun V => ?_
    rw [ltI hkl]
    simp only [oB_some, bC_true, bC_false, vInt_int, vBool_bool, vStr_string, vPtr_pointer, vSl_slice, vMap_map, vFun_func, vAgg_agg, vTup_tuple, vIfc_nil, vIfc_iface, lC_cons, lN_nil, aP_some, shO_none, shO_some, Option.isNone_none, Option.isNone_some, Bool.not_true, Bool.not_false]
    rw [List.drop_eq_getElem_cons hkl, wA] at he
    refine bC_iff (fun e => ?_) (fun e => ?_)
    · have e : n < 262144 := of_decide_eq_true e
      rw [if_pos e] at he
      refine ln_at O X rfl rfl hj fun V => ?_
      refine wd_at O V rfl rfl hkl ?_
      have hz := hl.2 _ (List.getElem_mem hkl)
      rw [wrap_small (n := 1 + (ps[j].x[k].size : Int)) (by omega) (by omega), wrap_small (n := n + (1 + (ps[j].x[k].size : Int))) (by omega) (by omega), wrapS (by omega)]
      exact ih (k + 1) _ (by omega) (by omega) (by omega) (by omega) he
    · have e : ¬ n < 262144 := of_decide_eq_false e
      rw [if_neg e] at he
      rw [wrapS (by omega)]
      exact ht n h0 h1 he
theorem wide_loop (O : Own h μ ρ) {ps : List Wds} {a : Option Addr} {cap : Nat} (X : Lns ρ ps a) (L : Long (ps.map Wds.x)) :
    ∀ (d j : Nat) (n : Int), ps.length - j = d → j ≤ ps.length → 0 ≤ n → n ≤ 262144 + 140737488355329 → Q (.bool (decide (wL ((ps.drop j).map Wds.x) n ≥ 262144))) h →
      unitAt P f_brickyardlaw13_wide 3 [0, 3, 4] [.slice a ps.length cap, .int .i64 n, .int .i64 (j : Int)] h Q := by
  intro d
  induction d with
  | zero =>
    intro j n hd hj h0 h1 hq
    refine r_brickyardlaw13_wide_3 ?_
    rw [geI (by omega)]
    simp only [oB_some, bC_true, bC_false, vInt_int, vBool_bool, vStr_string, vPtr_pointer, vSl_slice, vMap_map, vFun_func, vAgg_agg, vTup_tuple, vIfc_nil, vIfc_iface, lC_cons, lN_nil, aP_some, shO_none, shO_some, Option.isNone_none, Option.isNone_some, Bool.not_true, Bool.not_false]
    rw [List.drop_eq_nil_of_le (by omega)] at hq
    exact hq
  | succ d ih =>
    intro j n hd hj h0 h1 hq
    have hlt : j < ps.length := by omega
    refine r_brickyardlaw13_wide_3 ?_
    rw [ltI hlt]
    simp only [oB_some, bC_true, bC_false, vInt_int, vBool_bool, vStr_string, vPtr_pointer, vSl_slice, vMap_map, vFun_func, vAgg_agg, vTup_tuple, vIfc_nil, vIfc_iface, lC_cons, lN_nil, aP_some, shO_none, shO_some, Option.isNone_none, Option.isNone_some, Bool.not_true, Bool.not_false]
    rw [List.drop_eq_getElem_cons hlt, List.map_cons, wL] at hq
    refine bC_iff (fun e => ?_) (fun e => ?_)
    · have e : n < 262144 := of_decide_eq_true e
      rw [if_pos e] at hq
      rw [wrap_small (n := n + 1) (by omega) (by omega)]
      refine wide_words O X L hlt (n0 := n + 1) (fun n2 g0 g1 g2 => ?_) _ 0 (n + 1) rfl (by omega) (by omega) (by omega) rfl
      exact ih (j + 1) n2 (by omega) (by omega) g0 g1 (by rw [g2]; exact hq)
    · have e : ¬ n < 262144 := of_decide_eq_false e
      rw [if_neg e] at hq
      exact hq
theorem wide_ok (O : Own h μ ρ) {ps : List Wds} {a : Option Addr} {cap : Nat} (X : Lns ρ ps a) (L : Long (ps.map Wds.x)) (hq : Q (.bool (wideM (ps.map Wds.x))) h) :
    EvQ P f_brickyardlaw13_wide [.slice a ps.length cap] h Q :=
  r_brickyardlaw13_wide (wide_loop O X L _ 0 0 rfl (by omega) (by omega) (by omega) hq)

/-! The same statements? -/
theorem eq_big_loop {a b : Option Addr} {x y : List Str} {c d : Nat} (O : Own h μ ρ) (X : Vw ρ [] a (strs x)) (Y : Vw ρ [] b (strs y)) (hl : x.length = y.length) (hx : x.length ≤ 140737488355328) (hq : Q (.bool (decide (x = y))) h) :
    ∀ (n k : Nat), x.length - k = n → k ≤ x.length → x.take k = y.take k → unitAt P f_slices_Equal_sl_string_string 4 [0, 1, 12, 13] [.slice a x.length c, .slice b y.length d, .int .i64 (x.length : Int), .int .i64 (k : Int)] h Q := by
  intro n
  induction n with
  | zero =>
    intro k hn hk he
    refine r_slices_Equal_sl_string_string_4 ?_
    rw [geI (by omega)]
    simp only [oB_some, bC_true, bC_false, vInt_int, vBool_bool, vStr_string, vPtr_pointer, vSl_slice, vMap_map, vFun_func, vAgg_agg, vTup_tuple, vIfc_nil, vIfc_iface, lC_cons, lN_nil, aP_some, shO_none, shO_some, Option.isNone_none, Option.isNone_some, Bool.not_true, Bool.not_false]
    have : k = x.length := by omega
    subst this
    rw [List.take_length, hl, List.take_length] at he
    rw [← decide_eq_true he]; exact hq
  | succ n ih =>
    intro k hn hk he
    refine r_slices_Equal_sl_string_string_4 ?_
    have hlt : k < x.length := by omega
    rw [ltI hlt]
    simp only [oB_some, bC_true, bC_false, vInt_int, vBool_bool, vStr_string, vPtr_pointer, vSl_slice, vMap_map, vFun_func, vAgg_agg, vTup_tuple, vIfc_nil, vIfc_iface, lC_cons, lN_nil, aP_some, shO_none, shO_some, Option.isNone_none, Option.isNone_some, Bool.not_true, Bool.not_false]
    refine wd_at O X rfl rfl hlt ?_
    refine wd_at O Y rfl rfl (by omega) ?_
    refine bC_iff (fun e => ?_) (fun e => ?_)
    · have e' : x[k] ≠ y[k] := by simpa [bEq_false] using e
      have : decide (x = y) = false := by
        rw [decide_eq_false_iff_not]
        intro e2; subst e2; exact e' rfl
      rw [← this]; exact hq
    · rw [wrapS (by omega)]
      have e' : x[k] = y[k] := by simpa [bEq_iff] using e
      exact ih (k + 1) (by omega) (by omega) (by rw [List.take_succ_eq_append_getElem hlt, List.take_succ_eq_append_getElem (by omega), he, e'])
theorem eq_big {a b : Option Addr} {x y : List Str} {c d : Nat} (O : Own h μ ρ) (X : Vw ρ [] a (strs x)) (Y : Vw ρ [] b (strs y)) (hx : x.length ≤ 140737488355328) (hq : Q (.bool (decide (x = y))) h) :
    EvQ P f_slices_Equal_sl_string_string [.slice a x.length c, .slice b y.length d] h Q := by
  refine r_slices_Equal_sl_string_string ?_
  refine bC_iff (fun e => ?_) (fun e => ?_)
  · have : x.length ≠ y.length := by simp at e; omega
    have e2 : decide (x = y) = false := by
      rw [decide_eq_false_iff_not]
      intro e2; subst e2; exact this rfl
    rw [← e2]; exact hq
  · have hl : x.length = y.length := by simp at e; omega
    exact eq_big_loop O X Y hl hx hq x.length 0 (by omega) (by omega) rfl
end Go.Proofs.YtgdkekdedgkglaaDoor
end

section
/- Two lists of statements: the same? -/
namespace Go.Proofs.YtgdkekdedgkglaaDoor
open Go.Abs Go.Abs.Fo
set_option maxRecDepth 100000
attribute [local irreducible] unitAt EvQ
variable {h : AW} {μ : Paint} {ρ : Store} {Q : Value → AW → Prop}

theorem same_fn1 (O : Own h μ ρ) {op op' n n' : Int} {args args' : List Str} {aa aa' ba ba' : Option Addr} {ac ac' bc bc' : Nat} {body body' : F} (va : Vw ρ [] aa (strs args)) (va' : Vw ρ [] aa' (strs args')) (hl : args.length ≤ 140737488355328)
    (ih : ∀ {h : AW} {μ : Paint} {ρ' : Store} {Q : Value → AW → Prop}, Own h μ ρ' → Fra [] ρ ρ' → RdQ Q ρ' (.bool (F.eqB body body')) → EvQ P f_action_Same [.slice ba body.len bc, .slice ba' body'.len bc'] h Q)
    (hq : RdQ Q ρ (.bool (decide (op = op') && decide (n = n') && decide (args = args') && F.eqB body body'))) :
    EvQ P f_action_Same_fn1 [.agg ⟨[.int .i64 op, .slice aa args.length ac, .int .i64 n, .slice ba body.len bc]⟩, .agg ⟨[.int .i64 op', .slice aa' args'.length ac', .int .i64 n', .slice ba' body'.len bc']⟩] h Q := by
  refine r_action_Same_fn1 ?_
  obtain ⟨μ1, ρ1, c1, O1, W1, hc1⟩ := w_new O p00 [.int .i64 op, .slice aa args.length ac, .int .i64 n, .slice ba body.len bc]
  obtain ⟨μ2, ρ2, c2, O2, W2, hc2⟩ := w_new O1 W1 [.int .i64 op', .slice aa' args'.length ac', .int .i64 n', .slice ba' body'.len bc']
  have F2 : Fra [] ρ ρ2 := W2.fra0 fun c hc => by
    simp at hc; rcases hc with rfl | rfl <;> assumption
  repeat (first | refine ⟨rfl, ?_⟩ | refine ⟨trivial, ?_⟩ | simp only [oB_some, bC_true, bC_false, vInt_int, vBool_bool, vStr_string, vPtr_pointer, vSl_slice, vMap_map, vFun_func, vAgg_agg, vTup_tuple, vIfc_nil, vIfc_iface, lC_cons, lN_nil, aP_some, shO_none, shO_some, Option.isNone_none, Option.isNone_some, Bool.not_true, Bool.not_false] | refine w_rd (by assumption) (by assumption) 0 (by rfl) (by rfl) ?_ | refine w_rd (by assumption) (by assumption) 1 (by rfl) (by rfl) ?_ | refine w_wrL (by assumption) (by assumption) 0 (by rfl) (Nat.le_of_ble_eq_true (by rfl)) (by rfl) fun h ρz O W => ?_ | refine w_wrL (by assumption) (by assumption) 1 (by rfl) (Nat.le_of_ble_eq_true (by rfl)) (by rfl) fun h ρz O W => ?_ | refine w_wr (by assumption) (by assumption) 0 (by rfl) (Nat.le_of_ble_eq_true (by rfl)) (by rfl) fun h ρz O W => ?_ | refine w_wr (by assumption) (by assumption) 1 (by rfl) (Nat.le_of_ble_eq_true (by rfl)) (by rfl) fun h ρz O W => ?_)
  refine bC_iff (fun e => ?_) (fun e => ?_)
  · have e := eqI e
    subst e
    repeat (first | refine ⟨rfl, ?_⟩ | refine ⟨trivial, ?_⟩ | simp only [oB_some, bC_true, bC_false, vInt_int, vBool_bool, vStr_string, vPtr_pointer, vSl_slice, vMap_map, vFun_func, vAgg_agg, vTup_tuple, vIfc_nil, vIfc_iface, lC_cons, lN_nil, aP_some, shO_none, shO_some, Option.isNone_none, Option.isNone_some, Bool.not_true, Bool.not_false] | refine w_rd (by assumption) (by assumption) 0 (by rfl) (by rfl) ?_ | refine w_rd (by assumption) (by assumption) 1 (by rfl) (by rfl) ?_ | refine w_wrL (by assumption) (by assumption) 0 (by rfl) (Nat.le_of_ble_eq_true (by rfl)) (by rfl) fun h ρz O W => ?_ | refine w_wrL (by assumption) (by assumption) 1 (by rfl) (Nat.le_of_ble_eq_true (by rfl)) (by rfl) fun h ρz O W => ?_ | refine w_wr (by assumption) (by assumption) 0 (by rfl) (Nat.le_of_ble_eq_true (by rfl)) (by rfl) fun h ρz O W => ?_ | refine w_wr (by assumption) (by assumption) 1 (by rfl) (Nat.le_of_ble_eq_true (by rfl)) (by rfl) fun h ρz O W => ?_)
    refine bC_iff (fun e => ?_) (fun e => ?_)
    · have e := eqI e
      subst e
      repeat (first | refine ⟨rfl, ?_⟩ | refine ⟨trivial, ?_⟩ | simp only [oB_some, bC_true, bC_false, vInt_int, vBool_bool, vStr_string, vPtr_pointer, vSl_slice, vMap_map, vFun_func, vAgg_agg, vTup_tuple, vIfc_nil, vIfc_iface, lC_cons, lN_nil, aP_some, shO_none, shO_some, Option.isNone_none, Option.isNone_some, Bool.not_true, Bool.not_false] | refine w_rd (by assumption) (by assumption) 0 (by rfl) (by rfl) ?_ | refine w_rd (by assumption) (by assumption) 1 (by rfl) (by rfl) ?_ | refine w_wrL (by assumption) (by assumption) 0 (by rfl) (Nat.le_of_ble_eq_true (by rfl)) (by rfl) fun h ρz O W => ?_ | refine w_wrL (by assumption) (by assumption) 1 (by rfl) (Nat.le_of_ble_eq_true (by rfl)) (by rfl) fun h ρz O W => ?_ | refine w_wr (by assumption) (by assumption) 0 (by rfl) (Nat.le_of_ble_eq_true (by rfl)) (by rfl) fun h ρz O W => ?_ | refine w_wr (by assumption) (by assumption) 1 (by rfl) (Nat.le_of_ble_eq_true (by rfl)) (by rfl) fun h ρz O W => ?_)
      refine eq_big O2 (va.keep F2) (va'.keep F2) hl ?_
      simp only [oB_some, bC_true, bC_false, vInt_int, vBool_bool, vStr_string, vPtr_pointer, vSl_slice, vMap_map, vFun_func, vAgg_agg, vTup_tuple, vIfc_nil, vIfc_iface, lC_cons, lN_nil, aP_some, shO_none, shO_some, Option.isNone_none, Option.isNone_some, Bool.not_true, Bool.not_false]
      refine bC_iff (fun e => ?_) (fun e => ?_)
      · have e := of_decide_eq_true e
        subst e
        repeat (first | refine ⟨rfl, ?_⟩ | refine ⟨trivial, ?_⟩ | simp only [oB_some, bC_true, bC_false, vInt_int, vBool_bool, vStr_string, vPtr_pointer, vSl_slice, vMap_map, vFun_func, vAgg_agg, vTup_tuple, vIfc_nil, vIfc_iface, lC_cons, lN_nil, aP_some, shO_none, shO_some, Option.isNone_none, Option.isNone_some, Bool.not_true, Bool.not_false] | refine w_rd (by assumption) (by assumption) 0 (by rfl) (by rfl) ?_ | refine w_rd (by assumption) (by assumption) 1 (by rfl) (by rfl) ?_ | refine w_wrL (by assumption) (by assumption) 0 (by rfl) (Nat.le_of_ble_eq_true (by rfl)) (by rfl) fun h ρz O W => ?_ | refine w_wrL (by assumption) (by assumption) 1 (by rfl) (Nat.le_of_ble_eq_true (by rfl)) (by rfl) fun h ρz O W => ?_ | refine w_wr (by assumption) (by assumption) 0 (by rfl) (Nat.le_of_ble_eq_true (by rfl)) (by rfl) fun h ρz O W => ?_ | refine w_wr (by assumption) (by assumption) 1 (by rfl) (Nat.le_of_ble_eq_true (by rfl)) (by rfl) fun h ρz O W => ?_)
        refine ih O2 F2 fun h3 μ3 ρ3 O3 F3 => ?_
        simp only [oB_some, bC_true, bC_false, vInt_int, vBool_bool, vStr_string, vPtr_pointer, vSl_slice, vMap_map, vFun_func, vAgg_agg, vTup_tuple, vIfc_nil, vIfc_iface, lC_cons, lN_nil, aP_some, shO_none, shO_some, Option.isNone_none, Option.isNone_some, Bool.not_true, Bool.not_false]
        have := hq _ _ _ O3 (F2.trans F3)
        simpa using this
      · have e := of_decide_eq_false e
        have := hq _ _ _ O2 F2
        simpa [e] using this
    · have e := neI e
      have := hq _ _ _ O2 F2
      simpa [e] using this
  · have e := neI e
    have := hq _ _ _ O2 F2
    simpa [e] using this
theorem same_loop : ∀ (rest : F) {h : AW} {μ : Paint} {ρ : Store} {Q : Value → AW → Prop}, Own h μ ρ → ∀ {pre pre' rest' : F} {a a' : Option Addr} {c c' : List Value} {cap cap' : Nat}, Vw ρ [] a c → Lies (Vw ρ []) (pre.app rest) c → Vw ρ [] a' c' → Lies (Vw ρ []) (pre'.app rest') c' →
    pre.len = pre'.len → rest.len = rest'.len → (pre.app rest).len ≤ 140737488355328 → Fits rest → RdQ Q ρ (.bool (F.eqB rest rest')) →
    unitAt P f_slices_EqualFunc_sl_api_Stmt_sl_api_Stmt_api_Stmt_api_Stmt 4 [1, 2, 15, 16, 17] [.slice a' (pre'.app rest').len cap', .func (.func f_action_Same_fn1) ⟨[]⟩ ⟨[]⟩, .slice a (pre.app rest).len cap, .int .i64 ((pre.app rest).len : Int), .int .i64 (pre.len : Int)] h Q
  | .nil, h, μ, ρ, Q, O, pre, pre', .nil, a, a', c, c', cap, cap', X, L, X', L', hp, hr, hl, hf, hq => by
    refine r_slices_EqualFunc_sl_api_Stmt_sl_api_Stmt_api_Stmt_api_Stmt_4 ?_
    rw [F.app_nil, geI (Nat.le_refl _)]
    simp only [oB_some, bC_true, bC_false, vInt_int, vBool_bool, vStr_string, vPtr_pointer, vSl_slice, vMap_map, vFun_func, vAgg_agg, vTup_tuple, vIfc_nil, vIfc_iface, lC_cons, lN_nil, aP_some, shO_none, shO_some, Option.isNone_none, Option.isNone_some, Bool.not_true, Bool.not_false]
    exact hq.now O
  | .nil, h, μ, ρ, Q, O, pre, pre', .cons _ _ _ _ _, a, a', c, c', cap, cap', X, L, X', L', hp, hr, hl, hf, hq => by
    simp [F.len] at hr
  | .cons _ _ _ _ _, h, μ, ρ, Q, O, pre, pre', .nil, a, a', c, c', cap, cap', X, L, X', L', hp, hr, hl, hf, hq => by
    simp [F.len] at hr
  | .cons op args kk body rest, h, μ, ρ, Q, O, pre, pre', .cons op' args' kk' body' rest', a, a', c, c', cap, cap', X, L, X', L', hp, hr, hl, hf, hq => by
    obtain ⟨f1, f2, f3, f4, f5⟩ := hf
    simp only [F.len, Nat.add_right_cancel_iff] at hr
    have hlt : pre.len < (pre.app (.cons op args kk body rest)).len := app_lt
    refine r_slices_EqualFunc_sl_api_Stmt_sl_api_Stmt_api_Stmt_api_Stmt_4 ?_
    rw [ltI hlt]
    simp only [oB_some, bC_true, bC_false, vInt_int, vBool_bool, vStr_string, vPtr_pointer, vSl_slice, vMap_map, vFun_func, vAgg_agg, vTup_tuple, vIfc_nil, vIfc_iface, lC_cons, lN_nil, aP_some, shO_none, shO_some, Option.isNone_none, Option.isNone_some, Bool.not_true, Bool.not_false]
    refine st_copy O X L rfl rfl fun h1 μ1 ρ1 c1 aa ac ba bc O1 W1 hc1 F1 va la => ?_
    refine st_copy O1 (X'.keep F1) (L'.mono fun _ _ x => x.keep F1) (by rw [hp]) rfl fun h2 μ2 ρ2 c2 aa' ac' ba' bc' O2 W2 hc2 F2 va' la' => ?_
    have W := W1.adopt W2 hc2
    repeat (first | refine ⟨rfl, ?_⟩ | refine ⟨trivial, ?_⟩ | simp only [oB_some, bC_true, bC_false, vInt_int, vBool_bool, vStr_string, vPtr_pointer, vSl_slice, vMap_map, vFun_func, vAgg_agg, vTup_tuple, vIfc_nil, vIfc_iface, lC_cons, lN_nil, aP_some, shO_none, shO_some, Option.isNone_none, Option.isNone_some, Bool.not_true, Bool.not_false] | refine w_rd (by assumption) (by assumption) 0 (by rfl) (by rfl) ?_ | refine w_rd (by assumption) (by assumption) 1 (by rfl) (by rfl) ?_ | refine w_wrL (by assumption) (by assumption) 0 (by rfl) (Nat.le_of_ble_eq_true (by rfl)) (by rfl) fun h ρz O W => ?_ | refine w_wrL (by assumption) (by assumption) 1 (by rfl) (Nat.le_of_ble_eq_true (by rfl)) (by rfl) fun h ρz O W => ?_ | refine w_wr (by assumption) (by assumption) 0 (by rfl) (Nat.le_of_ble_eq_true (by rfl)) (by rfl) fun h ρz O W => ?_ | refine w_wr (by assumption) (by assumption) 1 (by rfl) (Nat.le_of_ble_eq_true (by rfl)) (by rfl) fun h ρz O W => ?_)
    have F12 := F1.trans F2
    refine same_fn1 O2 (va.keep F2) va' f1 (body := body) (body' := body') (fun {h3} {μ3} {ρ3} {Q3} O3 F3 hq3 => ?_) fun h3 μ3 ρ3 O3 F3 => ?_
    · refine r_action_Same (r_slices_EqualFunc_sl_api_Stmt_sl_api_Stmt_api_Stmt_api_Stmt ?_)
      refine bC_iff (fun e => ?_) (fun e => ?_)
      · have e : body.len ≠ body'.len := by simp at e; omega
        rw [F.eqB_len e] at hq3
        exact hq3.now O3
      · have e : body.len = body'.len := by simp at e; omega
        obtain ⟨d, v1, l1⟩ := (la.keep F2).keep F3
        obtain ⟨d', v1', l1'⟩ := la'.keep F3
        refine same_loop body (pre := .nil) (pre' := .nil) O3 v1 l1 v1' l1' rfl e f3 f4 fun h4 μ4 ρ4 O4 F4 => ?_
        simp only [oB_some, bC_true, bC_false, vInt_int, vBool_bool, vStr_string, vPtr_pointer, vSl_slice, vMap_map, vFun_func, vAgg_agg, vTup_tuple, vIfc_nil, vIfc_iface, lC_cons, lN_nil, aP_some, shO_none, shO_some, Option.isNone_none, Option.isNone_some, Bool.not_true, Bool.not_false]
        exact hq3 _ _ _ O4 F4
    · simp only [oB_some, bC_true, bC_false, vInt_int, vBool_bool, vStr_string, vPtr_pointer, vSl_slice, vMap_map, vFun_func, vAgg_agg, vTup_tuple, vIfc_nil, vIfc_iface, lC_cons, lN_nil, aP_some, shO_none, shO_some, Option.isNone_none, Option.isNone_some, Bool.not_true, Bool.not_false]
      refine bC_iff (fun e => ?_) (fun e => ?_)
      · have := hq _ _ _ O3 (F12.trans F3)
        have e : (decide (op = op') && decide (kk = kk') && decide (args = args') && F.eqB body body') = false := nb e
        simp only [F.eqB, e, Bool.false_and] at this
        exact this
      · have e : (decide (op = op') && decide (kk = kk') && decide (args = args') && F.eqB body body') = true := nb' e
        rw [wrapS (by omega)]
        have F13 := F12.trans F3
        have e3 : ∀ g : F, (pre.snoc op args kk body).app g = pre.app (.cons op args kk body g) := fun g => F.snoc_app pre op args kk body g
        have e4 : (pre.snoc op args kk body).len = pre.len + 1 := F.snoc_len pre op args kk body
        have e5 : ∀ g : F, (pre'.snoc op' args' kk' body').app g = pre'.app (.cons op' args' kk' body' g) := fun g => F.snoc_app pre' op' args' kk' body' g
        have e6 : (pre'.snoc op' args' kk' body').len = pre'.len + 1 := F.snoc_len pre' op' args' kk' body'
        have := same_loop rest (Q := Q) O3 (pre := pre.snoc op args kk body) (pre' := pre'.snoc op' args' kk' body') (rest' := rest') (cap := cap) (cap' := cap') (X.keep F13) (by rw [e3]; exact L.mono fun _ _ x => x.keep F13) (X'.keep F13) (by rw [e5]; exact L'.mono fun _ _ x => x.keep F13)
          (by rw [e4, e6, hp]) hr (by rw [e3]; exact hl) f5 (by
            have := hq.keep F13
            simp only [F.eqB, e, Bool.true_and] at this
            exact this)
        rw [e3, e4, e5] at this
        exact this
theorem same_ok (O : Own h μ ρ) {f g : F} {a b : Option Addr} {ca cb : Nat} (X : Ly ρ f a) (Y : Ly ρ g b) (hf : Fits f) (hl : f.len ≤ 140737488355328) (hq : RdQ Q ρ (.bool (F.eqB f g))) : EvQ P f_action_Same [.slice a f.len ca, .slice b g.len cb] h Q := by
  refine r_action_Same (r_slices_EqualFunc_sl_api_Stmt_sl_api_Stmt_api_Stmt_api_Stmt ?_)
  refine bC_iff (fun e => ?_) (fun e => ?_)
  · have e : f.len ≠ g.len := by simp at e; omega
    rw [F.eqB_len e] at hq
    exact hq.now O
  · have e : f.len = g.len := by simp at e; omega
    obtain ⟨d, v1, l1⟩ := X
    obtain ⟨d', v1', l1'⟩ := Y
    refine same_loop f (pre := .nil) (pre' := .nil) O v1 l1 v1' l1' rfl e hl hf fun h4 μ4 ρ4 O4 F4 => ?_
    simp only [oB_some, bC_true, bC_false, vInt_int, vBool_bool, vStr_string, vPtr_pointer, vSl_slice, vMap_map, vFun_func, vAgg_agg, vTup_tuple, vIfc_nil, vIfc_iface, lC_cons, lN_nil, aP_some, shO_none, shO_some, Option.isNone_none, Option.isNone_some, Bool.not_true, Bool.not_false]
    exact hq _ _ _ O4 F4
end Go.Proofs.YtgdkekdedgkglaaDoor
end

section
/- What may be, and the lines of what may be, as said. -/
namespace Go.Proofs.YtgdkekdedgkglaaDoor
open Go.Abs Go.Abs.Fo
set_option maxRecDepth 100000
attribute [local irreducible] unitAt EvQ
variable {h : AW} {μ : Paint} {ρ ρ' : Store} {Q : Value → AW → Prop}
end Go.Proofs.YtgdkekdedgkglaaDoor
end

section
/- Statements as lines, as said. -/
namespace Go.Proofs.YtgdkekdedgkglaaDoor
open Go.Abs Go.Abs.Fo
set_option maxRecDepth 100000
attribute [local irreducible] unitAt EvQ
variable {h : AW} {μ : Paint} {ρ ρ' : Store} {Q : Value → AW → Prop}
end Go.Proofs.YtgdkekdedgkglaaDoor
end

section
/- The same lines; an action's text. -/
namespace Go.Proofs.YtgdkekdedgkglaaDoor
open Go.Abs Go.Abs.Fo
set_option maxRecDepth 100000
attribute [local irreducible] unitAt EvQ
variable {h : AW} {μ : Paint} {ρ ρ' : Store} {Q : Value → AW → Prop}
theorem x_at {ps qs : List Wds} (e : ps.map Wds.x = qs.map Wds.x) {j : Nat} (h1 : j < ps.length) (h2 : j < qs.length) : ps[j].x = qs[j].x := by
  have := congrArg (fun l => l[j]?) e
  simpa [List.getElem?_map, List.getElem?_eq_getElem h1, List.getElem?_eq_getElem h2] using this
theorem alike_9 (O : Own h μ ρ) {ps qs : List Wds} {a b : Option Addr} {ca cb : Nat} (X : Lns ρ ps a) (Y : Lns ρ qs b) (e : ps.map Wds.x = qs.map Wds.x) (hl : ps.length ≤ 1000000) {i : Nat} (hi : i < ps.length) (hw : ps[i].x.length ≤ 20000000)
    (fin : unitAt P f_brickyardref13_Alike 4 [0, 1, 5] [.slice a ps.length ca, .slice b qs.length cb, .int .i64 ((i + 1 : Nat) : Int)] h Q) :
    ∀ (d k : Nat), ps[i].x.length - k = d → k ≤ ps[i].x.length → unitAt P f_brickyardref13_Alike 9 [0, 1, 5, 6] [.slice a ps.length ca, .slice b qs.length cb, .int .i64 (i : Int), .int .i64 (k : Int)] h Q := by
  have hlen : ps.length = qs.length := by have := congrArg List.length e; simpa using this
  have hi2 : i < qs.length := by omega
  have ex := x_at e hi hi2
  intro d
  induction d with
  | zero =>
    intro k hd hk
    refine r_brickyardref13_Alike_9 ?_
    refine ln_at O X rfl rfl hi fun _ => ?_
    rw [show decide ((k : Int) < (ps[i].x.length : Int)) = false from decide_eq_false (by omega)]
    simp only [oB_some, bC_true, bC_false, vInt_int, vBool_bool, vStr_string, vPtr_pointer, vSl_slice, vMap_map, vFun_func, vAgg_agg, vTup_tuple, vIfc_nil, vIfc_iface, lC_cons, lN_nil, aP_some, shO_none, shO_some, Option.isNone_none, Option.isNone_some, Bool.not_true, Bool.not_false]
    rw [wrapS (by omega)]
    exact fin
  | succ d ih =>
    intro k hd hk
    have hk1 : k < ps[i].x.length := by omega
    have hk2 : k < qs[i].x.length := by rw [← ex]; exact hk1
    refine r_brickyardref13_Alike_9 ?_
    refine ln_at O X rfl rfl hi fun v1 => ?_
    rw [show decide ((k : Int) < (ps[i].x.length : Int)) = true from decide_eq_true (by omega)]
    simp only [oB_some, bC_true, bC_false, vInt_int, vBool_bool, vStr_string, vPtr_pointer, vSl_slice, vMap_map, vFun_func, vAgg_agg, vTup_tuple, vIfc_nil, vIfc_iface, lC_cons, lN_nil, aP_some, shO_none, shO_some, Option.isNone_none, Option.isNone_some, Bool.not_true, Bool.not_false]
    refine ln_at O X rfl rfl hi fun v1 => ?_
    refine wd_at O v1 rfl rfl hk1 ?_
    refine ln_at O Y rfl rfl hi2 fun v2 => ?_
    refine wd_at O v2 rfl rfl hk2 ?_
    have es : ps[i].x[k] = qs[i].x[k] := by simp only [ex]
    rw [es, show bEq qs[i].x[k] qs[i].x[k] = true from bEq_iff.2 rfl]
    simp only [oB_some, bC_true, bC_false, vInt_int, vBool_bool, vStr_string, vPtr_pointer, vSl_slice, vMap_map, vFun_func, vAgg_agg, vTup_tuple, vIfc_nil, vIfc_iface, lC_cons, lN_nil, aP_some, shO_none, shO_some, Option.isNone_none, Option.isNone_some, Bool.not_true, Bool.not_false]
    rw [wrapS (by omega)]
    exact ih (k + 1) (by omega) (by omega)
theorem alike_4 (O : Own h μ ρ) {ps qs : List Wds} {a b : Option Addr} {ca cb : Nat} (X : Lns ρ ps a) (Y : Lns ρ qs b) (e : ps.map Wds.x = qs.map Wds.x) (hl : ps.length ≤ 1000000) (hw : ∀ p, p ∈ ps → p.x.length ≤ 20000000) (hq : Q (.bool true) h) :
    ∀ (d i : Nat), ps.length - i = d → i ≤ ps.length → unitAt P f_brickyardref13_Alike 4 [0, 1, 5] [.slice a ps.length ca, .slice b qs.length cb, .int .i64 (i : Int)] h Q := by
  have hlen : ps.length = qs.length := by have := congrArg List.length e; simpa using this
  intro d
  induction d with
  | zero =>
    intro i hd hi
    refine r_brickyardref13_Alike_4 ?_
    rw [geI (by omega)]
    simp only [oB_some, bC_true, bC_false, vInt_int, vBool_bool, vStr_string, vPtr_pointer, vSl_slice, vMap_map, vFun_func, vAgg_agg, vTup_tuple, vIfc_nil, vIfc_iface, lC_cons, lN_nil, aP_some, shO_none, shO_some, Option.isNone_none, Option.isNone_some, Bool.not_true, Bool.not_false]
    exact hq
  | succ d ih =>
    intro i hd hi
    have h1 : i < ps.length := by omega
    have h2 : i < qs.length := by omega
    refine r_brickyardref13_Alike_4 ?_
    rw [ltI h1]
    simp only [oB_some, bC_true, bC_false, vInt_int, vBool_bool, vStr_string, vPtr_pointer, vSl_slice, vMap_map, vFun_func, vAgg_agg, vTup_tuple, vIfc_nil, vIfc_iface, lC_cons, lN_nil, aP_some, shO_none, shO_some, Option.isNone_none, Option.isNone_some, Bool.not_true, Bool.not_false]
    refine ln_at O X rfl rfl h1 fun _ => ?_
    refine ln_at O Y rfl rfl h2 fun _ => ?_
    rw [show (((ps[i].x.length : Nat) : Int) != ((qs[i].x.length : Nat) : Int)) = false from by rw [x_at e h1 h2]; simp]
    simp only [oB_some, bC_true, bC_false, vInt_int, vBool_bool, vStr_string, vPtr_pointer, vSl_slice, vMap_map, vFun_func, vAgg_agg, vTup_tuple, vIfc_nil, vIfc_iface, lC_cons, lN_nil, aP_some, shO_none, shO_some, Option.isNone_none, Option.isNone_some, Bool.not_true, Bool.not_false]
    exact alike_9 O X Y e hl h1 (hw _ (List.getElem_mem h1)) (ih (i + 1) (by omega) (by omega)) _ 0 rfl (Nat.zero_le _)
theorem alike_ok (O : Own h μ ρ) {ps qs : List Wds} {a b : Option Addr} {ca cb : Nat} (X : Lns ρ ps a) (Y : Lns ρ qs b) (e : ps.map Wds.x = qs.map Wds.x) (hl : ps.length ≤ 1000000) (hw : ∀ p, p ∈ ps → p.x.length ≤ 20000000) (hq : Q (.bool true) h) :
    EvQ P f_brickyardref13_Alike [.slice a ps.length ca, .slice b qs.length cb] h Q := by
  have hlen : ps.length = qs.length := by have := congrArg List.length e; simpa using this
  refine r_brickyardref13_Alike ?_
  rw [show (((ps.length : Nat) : Int) != ((qs.length : Nat) : Int)) = false from by rw [hlen]; simp]
  simp only [oB_some, bC_true, bC_false, vInt_int, vBool_bool, vStr_string, vPtr_pointer, vSl_slice, vMap_map, vFun_func, vAgg_agg, vTup_tuple, vIfc_nil, vIfc_iface, lC_cons, lN_nil, aP_some, shO_none, shO_some, Option.isNone_none, Option.isNone_some, Bool.not_true, Bool.not_false]
  exact alike_4 O X Y e hl hw hq _ 0 rfl (Nat.zero_le _)
/-! As text. -/
/-- Lines that are not too great for a text. -/
structure Txt (ps : List Wds) : Prop where
  len : ps.length ≤ 1000000
  wds : ∀ p, p ∈ ps → p.x.length ≤ 20000000
  str : ∀ p, p ∈ ps → ∀ s, s ∈ p.x → s.size ≤ 20000000
  all : (prL (ps.map Wds.x)).length ≤ 100000000
theorem jn_drop {x : List Str} {k : Nat} (hk : k < x.length) : jn (decide (k = 0)) (x.drop k) = (if k = 0 then [] else [32]) ++ (showL (x[k]).data.toList ++ jn false (x.drop (k + 1))) := by
  rw [List.drop_eq_getElem_cons hk, jn]
  by_cases h : k = 0 <;> simp [h]
end Go.Proofs.YtgdkekdedgkglaaDoor
end

section
/- An action's text, as made. -/
namespace Go.Proofs.YtgdkekdedgkglaaDoor
open Go.Abs Go.Abs.Fo
set_option maxRecDepth 100000
attribute [local irreducible] unitAt EvQ
variable {h : AW} {μ : Paint} {ρ ρ' : Store} {Q : Value → AW → Prop}
theorem fra4 {n1 n2 n3 n4 : Nat} {rs : List Res} (h1 : ρ n1 = none) (h2 : ρ n2 = none) (h3 : ρ n3 = none) (h4 : ρ n4 = none) (W : Pcs ρ ρ' [n1, n2, n3, n4] rs) : Fra [] ρ ρ' := W.fra0 fun c hc => by
  simp only [List.mem_cons, List.not_mem_nil, or_false] at hc
  rcases hc with rfl | rfl | rfl | rfl <;> assumption
/-- The words of a line are written. -/
theorem aprint_9 {ps : List Wds} {a : Option Addr} {cap p n1 n2 n3 n4 : Nat} (X : Lns ρ ps a) (B : Txt ps) (h1 : ρ n1 = none) (h2 : ρ n2 = none) (h3 : ρ n3 = none) (h4 : ρ n4 = none) {i : Nat} (hi : i < ps.length) {fin : List UInt8} (hfin : fin.length ≤ 100000000)
    (next : ∀ {h : AW} {μ : Paint} {ρ' : Store} {acc : List UInt8} {b : Option Nat} {bc : Nat} {u : Option Addr}, Own h μ ρ' → Pcs ρ ρ' [n1, n2, n3, n4] (bldR p u b bc acc []) → (u = none ∨ u = some ⟨p, 0, none⟩) → acc ≠ [] → acc ++ prL ((ps.drop (i + 1)).map Wds.x) = fin →
      unitAt P f_action_Print 6 [6, 19, 20, 21] [.pointer (some ⟨p, 0, none⟩), .slice a ps.length cap, .int .i64 (ps.length : Int), .int .i64 ((i + 1 : Nat) : Int)] h Q) :
    ∀ (d k : Nat) {h : AW} {μ : Paint} {ρ' : Store} {acc : List UInt8} {b : Option Nat} {bc : Nat} {u : Option Addr}, ps[i].x.length - k = d → k ≤ ps[i].x.length → Own h μ ρ' → Pcs ρ ρ' [n1, n2, n3, n4] (bldR p u b bc acc []) → (u = none ∨ u = some ⟨p, 0, none⟩) → acc ++ (jn (decide (k = 0)) (ps[i].x.drop k) ++ [10] ++ prL ((ps.drop (i + 1)).map Wds.x)) = fin →
      unitAt P f_action_Print 9 [6, 19, 20, 21, 25, 26, 27] [.pointer (some ⟨p, 0, none⟩), .slice a ps.length cap, .int .i64 (ps.length : Int), .int .i64 (i : Int), .slice ps[i].a ps[i].x.length ps[i].cap, .int .i64 (ps[i].x.length : Int), .int .i64 (k : Int)] h Q := by
  have hil := B.len
  have hwl := B.wds _ (List.getElem_mem hi)
  have V := X.each _ (List.getElem_mem hi)
  intro d
  induction d with
  | zero =>
    intro k h μ ρ' acc b bc u hd hk O W hu ha
    have hacc : acc.length ≤ 100000000 := by
      have := congrArg List.length ha
      simp only [List.length_append] at this
      omega
    rw [List.drop_eq_nil_of_le (by omega), jn, List.nil_append, ← List.append_assoc] at ha
    refine r_action_Print_9 ?_
    rw [show decide ((k : Int) < (ps[i].x.length : Int)) = false from decide_eq_false (by omega)]
    simp only [oB_some, bC_true, bC_false, vInt_int, vBool_bool, vStr_string, vPtr_pointer, vSl_slice, vMap_map, vFun_func, vAgg_agg, vTup_tuple, vIfc_nil, vIfc_iface, lC_cons, lN_nil, aP_some, shO_none, shO_some, Option.isNone_none, Option.isNone_some, Bool.not_true, Bool.not_false]
    refine wb_ok O W hu 10 rfl (by omega) fun h5 μ5 ρ5 b5 cap5 O5 W5 => ?_
    simp only [oB_some, bC_true, bC_false, vInt_int, vBool_bool, vStr_string, vPtr_pointer, vSl_slice, vMap_map, vFun_func, vAgg_agg, vTup_tuple, vIfc_nil, vIfc_iface, lC_cons, lN_nil, aP_some, shO_none, shO_some, Option.isNone_none, Option.isNone_some, Bool.not_true, Bool.not_false]
    rw [wrapS (by omega)]
    exact next O5 W5 (.inr rfl) (by simp) ha
  | succ d ih =>
    intro k h μ ρ' acc b bc u hd hk O W hu ha
    have hk1 : k < ps[i].x.length := by omega
    have F := fra4 h1 h2 h3 h4 W
    have hacc : acc.length ≤ 100000000 := by
      have := congrArg List.length ha
      simp only [List.length_append] at this
      omega
    have hsz := B.str _ (List.getElem_mem hi) _ (List.getElem_mem hk1)
    have hsh := show_len (ps[i].x[k]).data.toList
    have hs0 : (ps[i].x[k]).data.toList.length = (ps[i].x[k]).size := rfl
    have e0 : decide (k + 1 = 0) = false := by simp
    have u13 : ∀ {h : AW} {μ : Paint} {ρ' : Store} {acc : List UInt8} {b : Option Nat} {bc : Nat} {u : Option Addr}, Own h μ ρ' → Pcs ρ ρ' [n1, n2, n3, n4] (bldR p u b bc acc []) → (u = none ∨ u = some ⟨p, 0, none⟩) → acc ++ (showL (ps[i].x[k]).data.toList ++ jn false (ps[i].x.drop (k + 1)) ++ [10] ++ prL ((ps.drop (i + 1)).map Wds.x)) = fin →
        unitAt P f_action_Print 13 [6, 10, 19, 20, 21, 25, 26, 27] [.pointer (some ⟨p, 0, none⟩), .string ps[i].x[k], .slice a ps.length cap, .int .i64 (ps.length : Int), .int .i64 (i : Int), .slice ps[i].a ps[i].x.length ps[i].cap, .int .i64 (ps[i].x.length : Int), .int .i64 (k : Int)] h Q := fun {h μ ρ' acc b bc u} O W hu ha => by
      have hacc : acc.length ≤ 100000000 := by
        have := congrArg List.length ha
        simp only [List.length_append] at this
        omega
      refine r_action_Print_13 ?_
      refine show_ok O (by omega) fun h2 μ2 ρ2 O2 F2 => ?_
      have W2 := W.keep0 F2
      simp only [oB_some, bC_true, bC_false, vInt_int, vBool_bool, vStr_string, vPtr_pointer, vSl_slice, vMap_map, vFun_func, vAgg_agg, vTup_tuple, vIfc_nil, vIfc_iface, lC_cons, lN_nil, aP_some, shO_none, shO_some, Option.isNone_none, Option.isNone_some, Bool.not_true, Bool.not_false]
      have hsize : (⟨⟨showL (ps[i].x[k]).data.toList⟩⟩ : ByteArray).size = (showL (ps[i].x[k]).data.toList).length := rfl
      refine ws_ok O2 W2 hu ⟨⟨showL (ps[i].x[k]).data.toList⟩⟩ (by omega) (by rw [hsize]; omega) fun h5 μ5 ρ5 b5 cap5 O5 W5 => ?_
      simp only [oB_some, bC_true, bC_false, vInt_int, vBool_bool, vStr_string, vPtr_pointer, vSl_slice, vMap_map, vFun_func, vAgg_agg, vTup_tuple, vIfc_nil, vIfc_iface, lC_cons, lN_nil, aP_some, shO_none, shO_some, Option.isNone_none, Option.isNone_some, Bool.not_true, Bool.not_false]
      rw [wrapS (by omega)]
      refine ih (k + 1) (by omega) (by omega) O5 W5 (.inr rfl) ?_
      rw [e0, ← ha]
      simp only [List.append_assoc]
    rw [jn_drop hk1] at ha
    refine r_action_Print_9 ?_
    rw [show decide ((k : Int) < (ps[i].x.length : Int)) = true from decide_eq_true (by omega)]
    simp only [oB_some, bC_true, bC_false, vInt_int, vBool_bool, vStr_string, vPtr_pointer, vSl_slice, vMap_map, vFun_func, vAgg_agg, vTup_tuple, vIfc_nil, vIfc_iface, lC_cons, lN_nil, aP_some, shO_none, shO_some, Option.isNone_none, Option.isNone_some, Bool.not_true, Bool.not_false]
    refine wd_at O (V.keep F) rfl rfl hk1 ?_
    refine bC_iff (fun e => ?_) (fun e => ?_)
    · have e : k ≠ 0 := by have := of_decide_eq_true e; omega
      rw [if_neg e] at ha
      refine wb_ok O W hu 32 rfl (by omega) fun h5 μ5 ρ5 b5 cap5 O5 W5 => ?_
      simp only [oB_some, bC_true, bC_false, vInt_int, vBool_bool, vStr_string, vPtr_pointer, vSl_slice, vMap_map, vFun_func, vAgg_agg, vTup_tuple, vIfc_nil, vIfc_iface, lC_cons, lN_nil, aP_some, shO_none, shO_some, Option.isNone_none, Option.isNone_some, Bool.not_true, Bool.not_false]
      exact u13 O5 W5 (.inr rfl) (by rw [← ha]; simp only [List.append_assoc])
    · have e : k = 0 := by have := of_decide_eq_false e; omega
      rw [if_pos e, List.nil_append] at ha
      exact u13 O W hu ha
theorem aprint_6 {ps : List Wds} {a : Option Addr} {cap p n1 n2 n3 n4 : Nat} (X : Lns ρ ps a) (B : Txt ps) (h1 : ρ n1 = none) (h2 : ρ n2 = none) (h3 : ρ n3 = none) (h4 : ρ n4 = none) (hq : RdQ Q ρ (.tuple ⟨[.string ⟨⟨prL (ps.map Wds.x)⟩⟩, .int .i64 0]⟩)) :
    ∀ (d i : Nat) {h : AW} {μ : Paint} {ρ' : Store} {acc : List UInt8} {b : Option Nat} {bc : Nat} {u : Option Addr}, ps.length - i = d → i ≤ ps.length → Own h μ ρ' → Pcs ρ ρ' [n1, n2, n3, n4] (bldR p u b bc acc []) → (u = none ∨ u = some ⟨p, 0, none⟩) → (acc = [] → b = none) → acc ++ prL ((ps.drop i).map Wds.x) = prL (ps.map Wds.x) →
      unitAt P f_action_Print 6 [6, 19, 20, 21] [.pointer (some ⟨p, 0, none⟩), .slice a ps.length cap, .int .i64 (ps.length : Int), .int .i64 (i : Int)] h Q := by
  have hil := B.len
  have hall := B.all
  intro d
  induction d with
  | zero =>
    intro i h μ ρ' acc b bc u hd hi O W hu hb ha
    rw [List.drop_eq_nil_of_le (by omega)] at ha
    have ha : acc = prL (ps.map Wds.x) := by simpa [prL] using ha
    refine r_action_Print_6 ?_
    rw [geI (by omega)]
    simp only [oB_some, bC_true, bC_false, vInt_int, vBool_bool, vStr_string, vPtr_pointer, vSl_slice, vMap_map, vFun_func, vAgg_agg, vTup_tuple, vIfc_nil, vIfc_iface, lC_cons, lN_nil, aP_some, shO_none, shO_some, Option.isNone_none, Option.isNone_some, Bool.not_true, Bool.not_false]
    refine bs_ok O W h1 h2 (by rw [ha]; omega) hb fun h5 ρ5 O5 W5 => ?_
    simp only [oB_some, bC_true, bC_false, vInt_int, vBool_bool, vStr_string, vPtr_pointer, vSl_slice, vMap_map, vFun_func, vAgg_agg, vTup_tuple, vIfc_nil, vIfc_iface, lC_cons, lN_nil, aP_some, shO_none, shO_some, Option.isNone_none, Option.isNone_some, Bool.not_true, Bool.not_false]
    rw [ha]
    exact hq _ _ _ O5 (W5.fra0 fun c hc => by simp at hc; rcases hc with rfl | rfl <;> assumption)
  | succ d ih =>
    intro i h μ ρ' acc b bc u hd hi O W hu hb ha
    have hl : i < ps.length := by omega
    have F := fra4 h1 h2 h3 h4 W
    rw [List.drop_eq_getElem_cons hl, List.map_cons, prL, List.flatMap_cons] at ha
    refine r_action_Print_6 ?_
    rw [ltI hl]
    simp only [oB_some, bC_true, bC_false, vInt_int, vBool_bool, vStr_string, vPtr_pointer, vSl_slice, vMap_map, vFun_func, vAgg_agg, vTup_tuple, vIfc_nil, vIfc_iface, lC_cons, lN_nil, aP_some, shO_none, shO_some, Option.isNone_none, Option.isNone_some, Bool.not_true, Bool.not_false]
    refine ln_at O (X.keep F) rfl rfl hl fun _ => ?_
    exact aprint_9 X B h1 h2 h3 h4 hl (fin := prL (ps.map Wds.x)) (by omega) (fun O' W' hu' h0 ha' => ih (i + 1) (by omega) (by omega) O' W' hu' (fun e => absurd e h0) ha') _ 0 rfl (Nat.zero_le _) O W hu (by rw [decide_eq_true rfl, List.drop_zero]; exact ha)
theorem word_len (op : Int) : (wordM op).size ≤ 6 := by
  unfold wordM
  cases op with
  | negSucc _ => exact Nat.zero_le _
  | ofNat n =>
    show ((kinds[n]?).getD e0).size ≤ 6
    by_cases hn : n < 13
    · have : ∀ k : Fin 13, ((kinds[k.1]?).getD e0).size ≤ 6 := by decide
      exact this ⟨n, hn⟩
    · rw [List.getElem?_eq_none (show kinds.length ≤ n by simp [kinds]; omega)]
      exact Nat.zero_le _
/-- The lines of what is no great thing are no great text. -/
theorem lines_sum : ∀ f : F, (f.lines.map fun l => 1 + (l.map fun s => 1 + s.size).sum).sum ≤ 40 * full f
  | .nil => by simp [F.lines]
  | .cons op args kk b r => by
    have hb := lines_sum b
    have hr := lines_sum r
    have hw := word_len op
    have hd : (digS kk.toNat).size ≤ 21 := digits_len 20 kk.toNat
    have he : wEnd.size = 3 := by decide
    simp only [F.lines, full, List.map_cons, List.map_append, List.sum_cons, List.sum_append, lineM]
    split <;> split <;> simp only [List.map_cons, List.map_nil, List.map_append, List.sum_cons, List.sum_nil, List.sum_append, Nat.add_zero, he] <;> omega
/-- What is laid down is no great text. -/
theorem txt_of {f : F} {ps : List Wds} (e : ps.map Wds.x = f.lines) (hf : full f ≤ 262143) : Txt ps := by
  have h := lines_sum f
  rw [← e] at h
  have h' : ((ps.map Wds.x).map fun l : List Str => 1 + (l.map fun s => 1 + s.size).sum).sum ≤ 10485720 := by
    have : 40 * full f ≤ 10485720 := by omega
    exact Nat.le_trans h this
  have hs : ∀ p, p ∈ ps → 1 + (p.x.map fun s => 1 + s.size).sum ≤ 10485720 := fun p hp => by
    have := sum_mem (List.mem_map_of_mem (f := fun l : List Str => 1 + (l.map fun s => 1 + s.size).sum) (List.mem_map_of_mem (f := Wds.x) hp))
    exact Nat.le_trans this h'
  refine ⟨?_, fun p hp => ?_, fun p hp s hx => ?_, ?_⟩
  · have h1 := F.lines_len f
    have h2 := F.size_full f
    have := congrArg List.length e
    rw [List.length_map] at this
    omega
  · have h1 := hs p hp
    have h2 := sum_len (l := p.x.map fun s => 1 + s.size) (by intro a ha; obtain ⟨l, _, rfl⟩ := List.mem_map.1 ha; omega)
    rw [List.length_map] at h2
    omega
  · have h1 := hs p hp
    have h2 := sum_mem (List.mem_map_of_mem (f := fun s : Str => 1 + s.size) hx)
    omega
  · exact Nat.le_trans (prL_len _) (Nat.le_trans (Nat.mul_le_mul_left 3 h') (by decide))
end Go.Proofs.YtgdkekdedgkglaaDoor
end

section
namespace Go.Proofs.YtgdkekdedgkglaaDoor
open Go.Abs
set_option maxRecDepth 100000
set_option maxHeartbeats 400000
def worksP (h : AW) (Q : Value → AW → Prop) : Prop := EvQ P f_action_Parse [Value.slice (some (Addr.mk (AW.next (AW.addVar (AW.addVar (AW.addVar (AW.addVar h [Value.string (ByteArray.mk
  #[101, 97, 99, 104]), Value.string (ByteArray.mk #[108, 105, 115, 116])]) [Value.string (ByteArray.mk #[99, 97, 116]), Value.string (ByteArray.mk #[64])]) [Value.string
  (ByteArray.mk #[101, 110, 100])]) [Value.string (ByteArray.mk #[119, 114, 105, 116, 101]), Value.string (ByteArray.mk #[120])])) 0 none)) 4 4] (AW.addVar (AW.addVar (AW.addVar
  (AW.addVar (AW.addVar h [Value.string (ByteArray.mk #[101, 97, 99, 104]), Value.string (ByteArray.mk #[108, 105, 115, 116])]) [Value.string (ByteArray.mk #[99, 97, 116]),
  Value.string (ByteArray.mk #[64])]) [Value.string (ByteArray.mk #[101, 110, 100])]) [Value.string (ByteArray.mk #[119, 114, 105, 116, 101]), Value.string (ByteArray.mk #[120])])
  [Value.slice (some (Addr.mk (AW.next h) 0 none)) 2 2, Value.slice (some (Addr.mk (AW.next (AW.addVar h [Value.string (ByteArray.mk #[101, 97, 99, 104]), Value.string
  (ByteArray.mk #[108, 105, 115, 116])])) 0 none)) 2 2, Value.slice (some (Addr.mk (AW.next (AW.addVar (AW.addVar h [Value.string (ByteArray.mk #[101, 97, 99, 104]), Value.string
  (ByteArray.mk #[108, 105, 115, 116])]) [Value.string (ByteArray.mk #[99, 97, 116]), Value.string (ByteArray.mk #[64])])) 0 none)) 1 1, Value.slice (some (Addr.mk (AW.next
  (AW.addVar (AW.addVar (AW.addVar h [Value.string (ByteArray.mk #[101, 97, 99, 104]), Value.string (ByteArray.mk #[108, 105, 115, 116])]) [Value.string (ByteArray.mk #[99, 97,
  116]), Value.string (ByteArray.mk #[64])]) [Value.string (ByteArray.mk #[101, 110, 100])])) 0 none)) 2 2]) fun v1 h2 => vTup v1 fun l3 => lC l3 fun v4 l5 => vSl v4 fun p6 m7 m8
  => lC l5 fun v9 l10 => vAgg v9 fun l11 => lC l11 fun v12 l13 => vInt IntKind.i64 v12 fun n14 => lC l13 fun v15 l16 => vInt IntKind.i64 v15 fun n17 => lN l16 (lN l10 (oB (AW.wrL
  (AW.addVar h2 [Value.int IntKind.i64 0, Value.int IntKind.i64 0]) (AW.next h2) 0 [Value.int IntKind.i64 n14, Value.int IntKind.i64 n17]) fun h18 => oB (AW.rd h18 (AW.next h2) 0)
  fun v19 => vInt IntKind.i64 v19 fun n20 => oB (AW.rd h18 (AW.next h2) 1) fun v21 => vInt IntKind.i64 v21 fun n22 => bC (n20 == 0 && (n22 == 0 && true)) (bC ((↑m7 : Int) == 2) (aP
  p6 fun m23 m24 => oB (natIdx 0 m7) fun m25 => oB (AW.rd h18 m23 (m24 + m25 * 4)) fun v26 => vInt IntKind.i64 v26 fun n27 => bC (n27 == 11) (aP p6 fun m28 m29 => oB (natIdx 0 m7)
  fun m30 => oB (AW.rd h18 m28 (m29 + m30 * 4 + 3)) fun v31 => vSl v31 fun p32 m33 m34 => bC ((↑m33 : Int) == 1) (aP p6 fun m35 m36 => oB (natIdx 1 m7) fun m37 => oB (AW.rd h18 m35
  (m36 + m37 * 4 + 1)) fun v38 => vSl v38 fun p39 m40 m41 => bC ((↑m40 : Int) == 1) (aP p6 fun m42 m43 => oB (natIdx 1 m7) fun m44 => oB (AW.rd h18 m42 (m43 + m44 * 4 + 1)) fun v45
  => vSl v45 fun p46 m47 m48 => aP p46 fun m49 m50 => oB (natIdx 0 m47) fun m51 => oB (AW.rd h18 m49 (m50 + m51 * 1)) fun v52 => vStr v52 fun s53 => Q (Value.bool (bEq s53
  (ByteArray.mk #[120]))) h18) (Q (Value.bool false) h18)) (Q (Value.bool false) h18)) (Q (Value.bool false) h18)) (Q (Value.bool false) h18)) (Q (Value.bool false) h18)))
theorem works_eq (h : AW) (Q : Value → AW → Prop) : worksP h Q = kFn P f_brickyardlaw13_works 400 (annOf []) [] h Q := by kernel_rfl
attribute [local irreducible] kFn EvQ worksP in
theorem r_brickyardlaw13_works {h : AW} {Q : Value → AW → Prop} (H : worksP h Q) : EvQ P f_brickyardlaw13_works [] h Q := by
  rw [works_eq] at H
  exact fn_ok H
end Go.Proofs.YtgdkekdedgkglaaDoor
end

section
/- One answer that the document fixes. -/
namespace Go.Proofs.YtgdkekdedgkglaaDoor
open Go.Abs Go.Abs.Fo
set_option maxRecDepth 100000
attribute [local irreducible] unitAt EvQ
variable {h : AW} {μ : Paint} {ρ : Store} {Q : Value → AW → Prop}
abbrev wList : Str := ⟨#[108, 105, 115, 116]⟩
abbrev wAt : Str := ⟨#[64]⟩
abbrev wX : Str := ⟨#[120]⟩
theorem works_says : parseM [[wEach, wList], [wCat, wAt], [wEnd], [wWrite, wX]] = (.cons 11 [wList] 0 (.cons 2 [wAt] 0 .nil .nil) (.cons 8 [wX] 0 .nil .nil), 0, 0) := by rfl
theorem works_ok (O : Own h μ ρ) (hq : RdQ Q ρ (.bool true)) : EvQ P f_brickyardlaw13_works [] h Q := by
  refine r_brickyardlaw13_works ?_
  unfold worksP
  obtain ⟨μ1, ρ1, c1, O1, W1, hc1⟩ := w_block O p00 (strs [wEach, wList]) (n := 2) (sz := 1) rfl rfl
  obtain ⟨μ2, ρ2, c2, O2, W2, hc2⟩ := w_block O1 W1 (strs [wCat, wAt]) (n := 2) (sz := 1) rfl rfl
  obtain ⟨μ3, ρ3, c3, O3, W3, hc3⟩ := w_block O2 W2 (strs [wEnd]) (n := 1) (sz := 1) rfl rfl
  obtain ⟨μ4, ρ4, c4, O4, W4, hc4⟩ := w_block O3 W3 (strs [wWrite, wX]) (n := 2) (sz := 1) rfl rfl
  obtain ⟨μ5, ρ5, c5, O5, W5, hc5⟩ := w_block O4 W4 ([⟨some ⟨h.next, 0, none⟩, 2, [wEach, wList]⟩, ⟨some ⟨h.next + 1, 0, none⟩, 2, [wCat, wAt]⟩, ⟨some ⟨h.next + 2, 0, none⟩, 1, [wEnd]⟩, ⟨some ⟨h.next + 3, 0, none⟩, 2, [wWrite, wX]⟩].map Wds.cell) (n := 4) (sz := 1) rfl rfl
  have fr : ∀ c, c ∈ [c5, c4, c3, c2, c1] → ρ c = none := fun c hc => by
    simp only [List.mem_cons, List.not_mem_nil, or_false] at hc
    rcases hc with rfl | rfl | rfl | rfl | rfl <;> assumption
  have F5 : Fra [] ρ ρ5 := W5.fra0 fr
  have X : Lns ρ5 [⟨some ⟨h.next, 0, none⟩, 2, [wEach, wList]⟩, ⟨some ⟨h.next + 1, 0, none⟩, 2, [wCat, wAt]⟩, ⟨some ⟨h.next + 2, 0, none⟩, 1, [wEnd]⟩, ⟨some ⟨h.next + 3, 0, none⟩, 2, [wWrite, wX]⟩] (some ⟨h.next + 4, 0, none⟩) := by
    refine ⟨.inr (Rd.of_sl O5 (by simp) (W5.at_ 0 _ _ rfl rfl)), fun p hp => ?_, fun p hp => ?_⟩
    · simp only [List.mem_cons, List.not_mem_nil, or_false] at hp
      rcases hp with rfl | rfl | rfl | rfl
      · exact .inr (Rd.of_sl O5 (by simp) (W5.at_ 4 _ _ rfl rfl))
      · exact .inr (Rd.of_sl O5 (by simp) (W5.at_ 3 _ _ rfl rfl))
      · exact .inr (Rd.of_sl O5 (by simp) (W5.at_ 2 _ _ rfl rfl))
      · exact .inr (Rd.of_sl O5 (by simp) (W5.at_ 1 _ _ rfl rfl))
    · simp only [List.mem_cons, List.not_mem_nil, or_false] at hp
      rcases hp with rfl | rfl | rfl | rfl <;> simp
  refine parse_ok O5 Tbs.none X (wide_not (by rfl)) (fun p hp w s e h10 => ?_) fun h6 μ6 ρ6 co cm oa oc cells vs O6 W6 hco hcm L6 => ?_
  · simp only [List.mem_cons, List.not_mem_nil, or_false] at hp
    rcases hp with rfl | rfl | rfl | rfl <;> simp only [List.cons.injEq, and_true, List.cons_ne_nil, and_false, reduceCtorEq] at e
    all_goals (obtain ⟨rfl, rfl⟩ := e; exact absurd h10 (by decide))
  · have hsay : parseM (List.map Wds.x [⟨some ⟨h.next, 0, none⟩, 2, [wEach, wList]⟩, ⟨some ⟨h.next + 1, 0, none⟩, 2, [wCat, wAt]⟩, ⟨some ⟨h.next + 2, 0, none⟩, 1, [wEnd]⟩, ⟨some ⟨h.next + 3, 0, none⟩, 2, [wWrite, wX]⟩]) = _ := works_says
    rw [hsay] at L6 ⊢
    have F6 : Fra [] ρ ρ6 := F5.trans (W6.fra0 fun c hc => by simp at hc; rcases hc with rfl | rfl <;> assumption)
    have h1 := W6.at_ 0 _ _ rfl rfl
    have h2 := W6.at_ 1 _ _ rfl rfl
    have L6' : Lies (Vw ρ6 []) _ cells := L6.mono fun _ _ x => x.read O6 h2
    have V6 : Vw ρ6 [] oa cells := .inr (Rd.of_sl O6 (by simp) h1)
    simp only [oB_some, bC_true, bC_false, vInt_int, vBool_bool, vStr_string, vPtr_pointer, vSl_slice, vMap_map, vFun_func, vAgg_agg, vTup_tuple, vIfc_nil, vIfc_iface, lC_cons, lN_nil, aP_some, shO_none, shO_some, Option.isNone_none, Option.isNone_some, Bool.not_true, Bool.not_false]
    refine w_copy O6 p00 rfl rfl rfl fun h7 μ7 ρ7 c7 O7 W7 hc7 => ?_
    have F7 : Fra [] ρ6 ρ7 := W7.fra0 fun c hc => by simp at hc; rw [hc]; exact hc7
    have L7 := L6'.mono fun _ _ x => Vw.keep x F7
    have V7 := V6.keep F7
    repeat (first | refine ⟨rfl, ?_⟩ | refine ⟨trivial, ?_⟩ | simp only [oB_some, bC_true, bC_false, vInt_int, vBool_bool, vStr_string, vPtr_pointer, vSl_slice, vMap_map, vFun_func, vAgg_agg, vTup_tuple, vIfc_nil, vIfc_iface, lC_cons, lN_nil, aP_some, shO_none, shO_some, Option.isNone_none, Option.isNone_some, Bool.not_true, Bool.not_false] | refine w_rd (by assumption) (by assumption) 0 (by rfl) (by rfl) ?_ | refine w_wrL (by assumption) (by assumption) 0 (by rfl) (Nat.le_of_ble_eq_true (by rfl)) (by rfl) fun h ρz O W => ?_ | refine w_wr (by assumption) (by assumption) 0 (by rfl) (Nat.le_of_ble_eq_true (by rfl)) (by rfl) fun h ρz O W => ?_)
    refine st_open (pre := .nil) O7 V7 L7 rfl rfl fun i off aa ac ba bc va la SA => ?_
    refine oB_bind (SA O7 Fra.refl).r0 ?_
    simp only [oB_some, bC_true, bC_false, vInt_int, vBool_bool, vStr_string, vPtr_pointer, vSl_slice, vMap_map, vFun_func, vAgg_agg, vTup_tuple, vIfc_nil, vIfc_iface, lC_cons, lN_nil, aP_some, shO_none, shO_some, Option.isNone_none, Option.isNone_some, Bool.not_true, Bool.not_false]
    refine st_open (pre := .nil) O7 V7 L7 rfl rfl fun i off aa ac ba bc va la SA => ?_
    refine oB_bind (SA O7 Fra.refl).r3 ?_
    simp only [oB_some, bC_true, bC_false, vInt_int, vBool_bool, vStr_string, vPtr_pointer, vSl_slice, vMap_map, vFun_func, vAgg_agg, vTup_tuple, vIfc_nil, vIfc_iface, lC_cons, lN_nil, aP_some, shO_none, shO_some, Option.isNone_none, Option.isNone_some, Bool.not_true, Bool.not_false]
    refine st_open (pre := .cons 11 [wList] 0 (.cons 2 [wAt] 0 .nil .nil) .nil) O7 V7 L7 rfl rfl fun i off aa ac ba bc va la SA => ?_
    refine oB_bind (SA O7 Fra.refl).r1 ?_
    simp only [oB_some, bC_true, bC_false, vInt_int, vBool_bool, vStr_string, vPtr_pointer, vSl_slice, vMap_map, vFun_func, vAgg_agg, vTup_tuple, vIfc_nil, vIfc_iface, lC_cons, lN_nil, aP_some, shO_none, shO_some, Option.isNone_none, Option.isNone_some, Bool.not_true, Bool.not_false]
    refine st_open (pre := .cons 11 [wList] 0 (.cons 2 [wAt] 0 .nil .nil) .nil) O7 V7 L7 rfl rfl fun i off aa ac ba bc va la SA => ?_
    refine oB_bind (SA O7 Fra.refl).r1 ?_
    simp only [oB_some, bC_true, bC_false, vInt_int, vBool_bool, vStr_string, vPtr_pointer, vSl_slice, vMap_map, vFun_func, vAgg_agg, vTup_tuple, vIfc_nil, vIfc_iface, lC_cons, lN_nil, aP_some, shO_none, shO_some, Option.isNone_none, Option.isNone_some, Bool.not_true, Bool.not_false]
    refine wd_at (j := 0) O7 va rfl rfl (by simp) ?_
    exact hq _ _ _ O7 (F6.trans F7)
end Go.Proofs.YtgdkekdedgkglaaDoor
end

section
/- Statements made by hand: the law's walk. -/
namespace Go.Proofs.YtgdkekdedgkglaaDoor
open Go.Abs Go.Abs.Fo
set_option maxRecDepth 100000
attribute [local irreducible] unitAt EvQ
variable {h : AW} {μ : Paint} {ρ ρ' : Store} {Q : Value → AW → Prop}
/-- What the lines and the text come to. -/
def linesM (f : F) : List Line := if f.may then f.lines else []
def errM (f : F) : Int := if f.may then 0 else 2
theorem lns_none {ρ : Store} : Lns ρ [] none := ⟨Vw.nil, fun p hp => by simp at hp, fun p hp => by simp at hp⟩
theorem linesC_ok (O : Own h μ ρ) (T : Vw ρ [] (some ⟨2, 0, none⟩) pow10) {f : F} {a : Option Addr} {cap : Nat} (X : Ly ρ f a) (hl : f.len ≤ 140737488355328) (hz : f.size ≤ 1000000000) (hs : Slim f)
    (H : ∀ h' μ' ρ' oa oc ps, Own h' μ' ρ' → Fra [] ρ ρ' → Lns ρ' ps oa → ps.map Wds.x = linesM f → Q (.tuple ⟨[.slice oa ps.length oc, .int .i64 (errM f)]⟩) h') : EvQ P f_action_Lines [.slice a f.len cap] h Q := by
  refine linesB_ok O T X hl hz hs (fun e h1 μ1 ρ1 O1 F1 => ?_) (fun e h1 μ1 ρ1 co cm oa oc ps vs O1 W1 hco hcm B e1 => ?_)
  · have := H h1 μ1 ρ1 none 0 [] O1 F1 lns_none (by unfold linesM; rw [e]; rfl)
    unfold errM at this
    rw [e] at this
    exact this
  · have := H h1 μ1 ρ1 oa oc ps O1 (W1.fra0 fun c hc => by simp at hc; rcases hc with rfl | rfl <;> assumption) (B.lns O1 (W1.at_ 0 _ _ rfl rfl) (W1.at_ 1 _ _ rfl rfl)) (by unfold linesM; rw [e, if_pos rfl]; exact e1)
    unfold errM at this
    rw [e, if_pos rfl] at this
    exact this
theorem txt_lines {f : F} {ps : List Wds} (e : ps.map Wds.x = linesM f) (hf : full f ≤ 262143) : Txt ps := by
  unfold linesM at e
  split at e
  · exact txt_of e hf
  · have : ps = [] := by simpa using e
    subst this
    exact ⟨Nat.zero_le _, fun p hp => by simp at hp, fun p hp => by simp at hp, by simp [prL]⟩
theorem print_ok (O : Own h μ ρ) (T : Vw ρ [] (some ⟨2, 0, none⟩) pow10) {f : F} {a : Option Addr} {cap : Nat} (X : Ly ρ f a) (hl : f.len ≤ 140737488355328) (hz : f.size ≤ 1000000000) (hs : Slim f) (hf : full f ≤ 262143)
    (hq : RdQ Q ρ (.tuple ⟨[.string ⟨⟨prL (linesM f)⟩⟩, .int .i64 (errM f)]⟩)) : EvQ P f_action_Print [.slice a f.len cap] h Q := by
  refine r_action_Print ?_
  refine linesC_ok O T X hl hz hs fun h1 μ1 ρ1 oa oc ps O1 F1 Z e => ?_
  have B := txt_lines e hf
  simp only [oB_some, bC_true, bC_false, vInt_int, vBool_bool, vStr_string, vPtr_pointer, vSl_slice, vMap_map, vFun_func, vAgg_agg, vTup_tuple, vIfc_nil, vIfc_iface, lC_cons, lN_nil, aP_some, shO_none, shO_some, Option.isNone_none, Option.isNone_some, Bool.not_true, Bool.not_false]
  cases hm : f.may with
  | false =>
    have e2 : errM f = 2 := by unfold errM; rw [hm]; rfl
    have e1 : linesM f = [] := by unfold linesM; rw [hm]; rfl
    rw [e1, e2] at hq
    rw [e2]
    show bC true _ _
    simp only [oB_some, bC_true, bC_false, vInt_int, vBool_bool, vStr_string, vPtr_pointer, vSl_slice, vMap_map, vFun_func, vAgg_agg, vTup_tuple, vIfc_nil, vIfc_iface, lC_cons, lN_nil, aP_some, shO_none, shO_some, Option.isNone_none, Option.isNone_some, Bool.not_true, Bool.not_false]
    exact hq _ _ _ O1 F1
  | true =>
    have e2 : errM f = 0 := by unfold errM; rw [hm]; rfl
    rw [e2] at hq
    rw [e2]
    show bC false _ _
    simp only [oB_some, bC_true, bC_false, vInt_int, vBool_bool, vStr_string, vPtr_pointer, vSl_slice, vMap_map, vFun_func, vAgg_agg, vTup_tuple, vIfc_nil, vIfc_iface, lC_cons, lN_nil, aP_some, shO_none, shO_some, Option.isNone_none, Option.isNone_some, Bool.not_true, Bool.not_false]
    obtain ⟨μ2, ρ2, n1, n2, n3, n4, O2, W2, h1, h2, h3, h4⟩ := new_bld O1 p00
    refine aprint_6 Z B h1 h2 h3 h4 (by rw [e]; exact hq.keep F1) _ 0 rfl (Nat.zero_le _) O2 W2 (.inl rfl) (fun _ => rfl) (by rw [List.drop_zero, List.nil_append])
end Go.Proofs.YtgdkekdedgkglaaDoor
end

section
/- A string's copy; the library's errors. -/
namespace Go.Proofs.YtgdkekdedgkglaaDoor
open Go.Abs Go.Abs.Fo
set_option maxRecDepth 100000
attribute [local irreducible] unitAt EvQ
variable {h : AW} {μ : Paint} {ρ : Store} {Q : Value → AW → Prop}
theorem ti_p_u8 : tiOf P ty_p_uint8 = some ⟨.pointer ty_uint8, false, 1, 8, some (.pointer none)⟩ := by kernel_rfl
theorem lib_clone (O : Own h μ ρ) {s : Str} (hs : s.size ≤ 70368744177664) (hq : RdQ Q ρ (.string s)) : EvQ P f_stringslite_Clone [.string s] h Q := by
  refine r_stringslite_Clone ?_
  refine bC_iff (fun e => ?_) (fun e => ?_)
  · have e : s.size = 0 := by simpa using e
    have : s = ⟨#[]⟩ := by
      apply ByteArray.ext
      exact Array.eq_empty_of_size_eq_zero e
    rw [this] at hq
    exact hq.now O
  have e : s.size ≠ 0 := by simpa using e
  have hrep : ∀ n, allOne (rep [Value.int .u8 0] n) = true := fun n => allOne_of fun v hv => by
    have : ∀ n, ∀ v, v ∈ rep [Value.int .u8 0] n → v = .int .u8 0 := by
      intro n
      induction n with
      | zero => intro v hv; cases hv
      | succ n ih =>
        intro v hv
        rcases List.mem_append.1 hv with x | x
        · simpa using x
        · exact ih v x
    rw [this n v hv]; rfl
  refine w_makeT O p00 ti_ty_sl_uint8 ti_ty_uint8 s.size rfl (hrep _) (by omega) (by omega) fun h1 μ1 ρ1 c d i O1 W1 hc hd => ?_
  simp only [oB_some, bC_true, bC_false, vInt_int, vBool_bool, vStr_string, vPtr_pointer, vSl_slice, vMap_map, vFun_func, vAgg_agg, vTup_tuple, vIfc_nil, vIfc_iface, lC_cons, lN_nil, aP_some, shO_none, shO_some, Option.isNone_none, Option.isNone_some, Bool.not_true, Bool.not_false]
  refine w_copyStr (P := P) O1 W1 0 rfl (by rw [rep_length]; simp [Value.cells]) ti_ty_sl_uint8 ti_ty_uint8 fun h2 ρ2 O2 W2 => ?_
  simp only [oB_some, bC_true, bC_false, vInt_int, vBool_bool, vStr_string, vPtr_pointer, vSl_slice, vMap_map, vFun_func, vAgg_agg, vTup_tuple, vIfc_nil, vIfc_iface, lC_cons, lN_nil, aP_some, shO_none, shO_some, Option.isNone_none, Option.isNone_some, Bool.not_true, Bool.not_false]
  rw [show natIdx 0 s.size = some 0 from natIdx_eq (j := 0) (by omega)]
  simp only [oB_some, bC_true, bC_false, vInt_int, vBool_bool, vStr_string, vPtr_pointer, vSl_slice, vMap_map, vFun_func, vAgg_agg, vTup_tuple, vIfc_nil, vIfc_iface, lC_cons, lN_nil, aP_some, shO_none, shO_some, Option.isNone_none, Option.isNone_some, Bool.not_true, Bool.not_false]
  have hl : s.data.toList.length = s.size := rfl
  refine w_ustr (P := P) (bs := s.data.toList) O2 W2 hc hd ti_p_u8 ti_ty_uint8 rfl rfl (by intro x; rw [x] at hl; simp at hl; omega) (by omega) fun h3 ρ3 O3 W3 => ?_
  simp only [oB_some, bC_true, bC_false, vInt_int, vBool_bool, vStr_string, vPtr_pointer, vSl_slice, vMap_map, vFun_func, vAgg_agg, vTup_tuple, vIfc_nil, vIfc_iface, lC_cons, lN_nil, aP_some, shO_none, shO_some, Option.isNone_none, Option.isNone_some, Bool.not_true, Bool.not_false]
  exact hq _ _ _ O3 (W3.fra0 fun c hc => by cases hc)
/-- One of the library's errors stands at a package variable. -/
def Err1 (ρ : Store) (g : Nat) : Prop := ∃ t v, Vw ρ [] (some ⟨g, 0, none⟩) [.iface t v] ∧ ifcB v = true
theorem Err1.keep {ρ ρ' : Store} {g : Nat} (E : Err1 ρ g) (F : Fra [] ρ ρ') : Err1 ρ' g := by
  obtain ⟨t, v, h1, h2⟩ := E
  exact ⟨t, v, h1.keep F, h2⟩
theorem err_rd (O : Own h μ ρ) {g : Nat} {t : TypeId} {v : Value} (V : Vw ρ [] (some ⟨g, 0, none⟩) [.iface t v]) : h.rd g 0 = some (.iface t v) := by
  have := Fo.Sl.get (j := 0) (v := .iface t v) (V.sl O) rfl
  simpa using this
theorem syntax_ok (O : Own h μ ρ) (E : Err1 ρ 0) {w s : Str} (hs : s.size ≤ 70368744177664) (hq : ∀ h' μ' ρ' p, Own h' μ' ρ' → Fra [] ρ ρ' → Q (.pointer p) h') : EvQ P f_strconv_syntaxError [.string w, .string s] h Q := by
  refine r_strconv_syntaxError ?_
  refine lib_clone O hs fun h1 μ1 ρ1 O1 F1 => ?_
  simp only [oB_some, bC_true, bC_false, vInt_int, vBool_bool, vStr_string, vPtr_pointer, vSl_slice, vMap_map, vFun_func, vAgg_agg, vTup_tuple, vIfc_nil, vIfc_iface, lC_cons, lN_nil, aP_some, shO_none, shO_some, Option.isNone_none, Option.isNone_some, Bool.not_true, Bool.not_false]
  obtain ⟨t, v, V, hi⟩ := E
  refine oB_bind (err_rd O1 (V.keep F1)) ?_
  simp only [oB_some, bC_true, bC_false, vInt_int, vBool_bool, vStr_string, vPtr_pointer, vSl_slice, vMap_map, vFun_func, vAgg_agg, vTup_tuple, vIfc_nil, vIfc_iface, lC_cons, lN_nil, aP_some, shO_none, shO_some, Option.isNone_none, Option.isNone_some, Bool.not_true, Bool.not_false]
  refine ⟨hi, oB_bind (err_rd O V) ?_⟩
  simp only [oB_some, bC_true, bC_false, vInt_int, vBool_bool, vStr_string, vPtr_pointer, vSl_slice, vMap_map, vFun_func, vAgg_agg, vTup_tuple, vIfc_nil, vIfc_iface, lC_cons, lN_nil, aP_some, shO_none, shO_some, Option.isNone_none, Option.isNone_some, Bool.not_true, Bool.not_false]
  refine ⟨trivial, ?_⟩
  obtain ⟨μ2, ρ2, c, O2, W2, hc⟩ := w_new O1 p00 [.string w, .string s, .iface t v]
  exact hq _ _ _ _ O2 (F1.trans (W2.fra0 fun d hd => by simp at hd; rw [hd]; exact hc))
theorem range_ok (O : Own h μ ρ) (E : Err1 ρ 1) {w s : Str} (hs : s.size ≤ 70368744177664) (hq : ∀ h' μ' ρ' p, Own h' μ' ρ' → Fra [] ρ ρ' → Q (.pointer p) h') : EvQ P f_strconv_rangeError [.string w, .string s] h Q := by
  refine r_strconv_rangeError ?_
  refine lib_clone O hs fun h1 μ1 ρ1 O1 F1 => ?_
  simp only [oB_some, bC_true, bC_false, vInt_int, vBool_bool, vStr_string, vPtr_pointer, vSl_slice, vMap_map, vFun_func, vAgg_agg, vTup_tuple, vIfc_nil, vIfc_iface, lC_cons, lN_nil, aP_some, shO_none, shO_some, Option.isNone_none, Option.isNone_some, Bool.not_true, Bool.not_false]
  obtain ⟨t, v, V, hi⟩ := E
  refine oB_bind (err_rd O1 (V.keep F1)) ?_
  simp only [oB_some, bC_true, bC_false, vInt_int, vBool_bool, vStr_string, vPtr_pointer, vSl_slice, vMap_map, vFun_func, vAgg_agg, vTup_tuple, vIfc_nil, vIfc_iface, lC_cons, lN_nil, aP_some, shO_none, shO_some, Option.isNone_none, Option.isNone_some, Bool.not_true, Bool.not_false]
  refine ⟨hi, oB_bind (err_rd O V) ?_⟩
  simp only [oB_some, bC_true, bC_false, vInt_int, vBool_bool, vStr_string, vPtr_pointer, vSl_slice, vMap_map, vFun_func, vAgg_agg, vTup_tuple, vIfc_nil, vIfc_iface, lC_cons, lN_nil, aP_some, shO_none, shO_some, Option.isNone_none, Option.isNone_some, Bool.not_true, Bool.not_false]
  refine ⟨trivial, ?_⟩
  obtain ⟨μ2, ρ2, c, O2, W2, hc⟩ := w_new O1 p00 [.string w, .string s, .iface t v]
  exact hq _ _ _ _ O2 (F1.trans (W2.fra0 fun d hd => by simp at hd; rw [hd]; exact hc))
/-- Both errors of the library. -/
structure Errs (ρ : Store) : Prop where
  syn : Err1 ρ 0
  rng : Err1 ρ 1
theorem Errs.keep {ρ ρ' : Store} (E : Errs ρ) (F : Fra [] ρ ρ') : Errs ρ' := ⟨E.syn.keep F, E.rng.keep F⟩
theorem same_err : ∀ k c : Fin 5, eqV P ty_error false (.iface ty_strconv_Error (.int .i64 (k.1 : Int))) (.iface ty_strconv_Error (.int .i64 (c.1 : Int))) = some (decide (k = c)) := by
  have key : ∀ k c : Int, eqV P ty_error false (.iface ty_strconv_Error (.int .i64 k)) (.iface ty_strconv_Error (.int .i64 c)) = some (k == c) := fun k c => by kernel_rfl
  intro k c
  rw [key]
  congr 1
  rw [Bool.eq_iff_iff]
  simp only [beq_iff_eq, decide_eq_true_eq]
  constructor
  · intro e; apply Fin.ext; omega
  · intro e; rw [e]
/-- An error of a number becomes an error of the package. -/
theorem toError_ok (O : Own h μ ρ) (E : Errs ρ) {w s : Str} (hs : s.size ≤ 70368744177664) {k : Nat} (h1 : k = 1 ∨ k = 2) (hq : ∀ h' μ' ρ' t p, Own h' μ' ρ' → Fra [] ρ ρ' → Q (.iface t (.pointer p)) h') : EvQ P f_strconv_toError [.string w, .string s, .int .i64 0, .int .i64 0, .iface ty_strconv_Error (.int .i64 (k : Int))] h Q := by
  refine r_strconv_toError ?_
  rcases h1 with rfl | rfl
  · refine oB_bind (same_err 1 2) ?_
    show bC false _ _
    simp only [bC_false]
    refine oB_bind (same_err 1 1) ?_
    show bC true _ _
    simp only [bC_true]
    refine range_ok O E.rng hs fun h1 μ1 ρ1 p O1 F1 => ?_
    simp only [oB_some, bC_true, bC_false, vInt_int, vBool_bool, vStr_string, vPtr_pointer, vSl_slice, vMap_map, vFun_func, vAgg_agg, vTup_tuple, vIfc_nil, vIfc_iface, lC_cons, lN_nil, aP_some, shO_none, shO_some, Option.isNone_none, Option.isNone_some, Bool.not_true, Bool.not_false]
    exact hq _ _ _ _ _ O1 F1
  · refine oB_bind (same_err 2 2) ?_
    show bC true _ _
    simp only [bC_true]
    refine syntax_ok O E.syn hs fun h1 μ1 ρ1 p O1 F1 => ?_
    simp only [oB_some, bC_true, bC_false, vInt_int, vBool_bool, vStr_string, vPtr_pointer, vSl_slice, vMap_map, vFun_func, vAgg_agg, vTup_tuple, vIfc_nil, vIfc_iface, lC_cons, lN_nil, aP_some, shO_none, shO_some, Option.isNone_none, Option.isNone_some, Bool.not_true, Bool.not_false]
    exact hq _ _ _ _ _ O1 F1
end Go.Proofs.YtgdkekdedgkglaaDoor
end
