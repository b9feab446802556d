/- A deterministic heap for the model, proved sound, and walks of the program over it: part 9. No condition. -/
import Derived.Test.YtgdkekdedgkglaaDoorAb1
import Derived.Test.YtgdkekdedgkglaaDoorAb2
import Derived.Test.YtgdkekdedgkglaaDoorAb3
import Derived.Test.YtgdkekdedgkglaaDoorAb4
import Derived.Test.YtgdkekdedgkglaaDoorAb6
import Derived.Test.YtgdkekdedgkglaaDoorAb5
import Derived.Test.YtgdkekdedgkglaaDoorCd2
import Derived.Test.YtgdkekdedgkglaaDoorCd1
set_option linter.unusedVariables false
set_option linter.unusedSimpArgs false
set_option linter.unusedSectionVars false
section
/- Reading lines of words: the walk. -/
namespace Go.Proofs.YtgdkekdedgkglaaDoor
open Go.Abs Go.Abs.Fo
set_option maxRecDepth 100000
attribute [local irreducible] unitAt EvQ
variable {h : AW} {μ : Paint} {ρ : Store} {Q : Value → AW → Prop}

abbrev ptr0 (p : Nat) : Value := .pointer (some ⟨p, 0, none⟩)
/-- What stands by a reader of lines. -/
abbrev stR (pf pn pb pm pa pl : Nat) (a : Option Addr) (N cap : Nat) (s : PS) : List Res :=
  [.var pf [.func (.func f_action_Parse_fn2) ⟨[]⟩ ⟨[ptr0 pb, ptr0 pn, ptr0 pa, ptr0 pm, ptr0 pf]⟩], .var pn [.func (.func f_action_Parse_fn1) ⟨[]⟩ ⟨[ptr0 pa, ptr0 pl]⟩], .var pb [.int .i64 s.err, .int .i64 s.bad], .var pm [.int .i64 (s.many : Int)], .var pa [.int .i64 (s.i : Int)], .var pl [.slice a N cap]]
/-- A statement joins the others. -/
theorem app_x (O : Own h μ ρ) {ρ1 : Store} {cx co cm : Nat} {ns : List Nat} {px : Nat} {op n : Int} {aa ba oa : Option Addr} {an ac bn bc oc : Nat} {cells : List Value} {vs : List (Option Addr × Nat × Nat × List Value)} {rs : List Res} {facc : F} {deep pf pn pb pm pa : Nat}
    (W : Pcs ρ1 ρ (cx :: co :: cm :: ns) (.var px [.int .i64 op, .slice aa an ac, .int .i64 n, .slice ba bn bc] :: .sl oa oc 4 cells :: .many vs :: rs)) (hcx : ρ1 cx = none) (hlen : cells.length = facc.len * 4) (hsm : facc.len ≤ 1000000)
    (H : ∀ h' μ' ρ' oa' oc', Own h' μ' ρ' → Pcs ρ1 ρ' (co :: cm :: ns) (.sl oa' oc' 4 (cells ++ [.int .i64 op, .slice aa an ac, .int .i64 n, .slice ba bn bc]) :: .many vs :: rs) →
      unitAt P f_action_Parse_fn2 2 [0, 1, 2, 3, 4, 5, 8] [.int .i64 (deep : Int), ptr0 pb, ptr0 pn, ptr0 pa, ptr0 pm, ptr0 pf, .slice oa' (facc.len + 1) oc'] h' Q) :
    oB (AW.rd h px 0) fun v75 => vInt IntKind.i64 v75 fun n76 => oB (AW.rd h px 1) fun v77 => vSl v77 fun p78 m79 m80 => oB (AW.rd h px 2) fun v81 => vInt IntKind.i64 v81 fun n82 => oB (AW.rd h
      px 3) fun v83 => vSl v83 fun p84 m85 m86 => oP (appendB P (AW.addVar h [Value.int IntKind.i64 n76, Value.slice p78 m79 m80, Value.int IntKind.i64 n82, Value.slice p84 m85 m86])
      (Array.mk [ty_sl_api_Stmt, ty_sl_api_Stmt]) [Value.slice oa facc.len oc, Value.slice (some (Addr.mk (AW.next h) 0 none)) 1 1]) fun v87 h88 => vSl v87 fun p89 m90 m91 => unitAt P
      f_action_Parse_fn2 2 [0, 1, 2, 3, 4, 5, 8] [Value.int IntKind.i64 (deep : Int), Value.pointer (some (Addr.mk pb 0 none)), Value.pointer (some (Addr.mk pn 0 none)), Value.pointer (some
      (Addr.mk pa 0 none)), Value.pointer (some (Addr.mk pm 0 none)), Value.pointer (some (Addr.mk pf 0 none)), Value.slice p89 m90 m91] h88 Q := by
  refine w_rd O W 0 rfl rfl ?_
  simp only [oB_some, bC_true, bC_false, vInt_int, vBool_bool, vStr_string, vPtr_pointer, vSl_slice, vMap_map, vFun_func, vAgg_agg, vTup_tuple, vIfc_nil, vIfc_iface, lC_cons, lN_nil, aP_some, shO_none, shO_some, Option.isNone_none, Option.isNone_some, Bool.not_true, Bool.not_false]
  refine w_rd O W 0 rfl rfl ?_
  simp only [oB_some, bC_true, bC_false, vInt_int, vBool_bool, vStr_string, vPtr_pointer, vSl_slice, vMap_map, vFun_func, vAgg_agg, vTup_tuple, vIfc_nil, vIfc_iface, lC_cons, lN_nil, aP_some, shO_none, shO_some, Option.isNone_none, Option.isNone_some, Bool.not_true, Bool.not_false]
  refine w_rd O W 0 rfl rfl ?_
  simp only [oB_some, bC_true, bC_false, vInt_int, vBool_bool, vStr_string, vPtr_pointer, vSl_slice, vMap_map, vFun_func, vAgg_agg, vTup_tuple, vIfc_nil, vIfc_iface, lC_cons, lN_nil, aP_some, shO_none, shO_some, Option.isNone_none, Option.isNone_some, Bool.not_true, Bool.not_false]
  refine w_rd O W 0 rfl rfl ?_
  simp only [oB_some, bC_true, bC_false, vInt_int, vBool_bool, vStr_string, vPtr_pointer, vSl_slice, vMap_map, vFun_func, vAgg_agg, vTup_tuple, vIfc_nil, vIfc_iface, lC_cons, lN_nil, aP_some, shO_none, shO_some, Option.isNone_none, Option.isNone_some, Bool.not_true, Bool.not_false]
  obtain ⟨μ1, ρ2, c1, O1, W1, hc1⟩ := w_block O W [.int .i64 op, .slice aa an ac, .int .i64 n, .slice ba bn bc] (n := 1) (sz := 4) rfl rfl
  refine w_app (P := P) O1 W1 2 (n := facc.len) (m := 1) ti_ty_sl_api_Stmt ti_ty_api_Stmt (by decide) rfl hlen (w_sl O1 W1 0 rfl) rfl rfl (by omega) (by omega) fun oa' oc' h2 μ2 ρ3 O2 W2 => ?_
  simp only [oB_some, bC_true, bC_false, vInt_int, vBool_bool, vStr_string, vPtr_pointer, vSl_slice, vMap_map, vFun_func, vAgg_agg, vTup_tuple, vIfc_nil, vIfc_iface, lC_cons, lN_nil, aP_some, shO_none, shO_some, Option.isNone_none, Option.isNone_some, Bool.not_true, Bool.not_false]
  exact H _ _ _ _ _ O2 ((W2.tail hc1).tail hcx)

theorem bd_nil {n deep : Nat} {s : PS} (he : s.err = 0) : bd (n + 1) deep [] s = (.nil, [], if deep > 0 then { s with err := 131, bad := s.i } else s) := by
  rw [bd, if_neg (by simp [he])]
theorem bd_end {n deep : Nat} {r : List Line} {s : PS} (he : s.err = 0) : bd (n + 1) deep ([wEnd] :: r) s = (.nil, r, if deep = 0 then { s with i := s.i + 1, err := 131, bad := s.i } else { s with i := s.i + 1 }) := by
  rw [bd, if_neg (by simp [he])]
  simp only
  rw [if_pos trivial]
theorem bd_bad {n deep : Nat} {l : Line} {r : List Line} {s : PS} (he : s.err = 0) (hl : l ≠ [wEnd]) (hx : (stmtM l).ok = false) : bd (n + 1) deep (l :: r) s = (.cons (stmtM l).op (stmtM l).args (stmtM l).n .nil .nil, r, ⟨s.i + 1, s.many + 1, 130, s.i⟩) := by
  rw [bd, if_neg (by simp [he])]
  simp only
  rw [if_neg hl, if_pos hx]
theorem bd_long {n deep : Nat} {l : Line} {r : List Line} {s : PS} (he : s.err = 0) (hl : l ≠ [wEnd]) (hx : (stmtM l).ok = true) (hm : s.many + 1 > 256) : bd (n + 1) deep (l :: r) s = (.cons (stmtM l).op (stmtM l).args (stmtM l).n .nil .nil, r, ⟨s.i + 1, s.many + 1, 3, s.i⟩) := by
  rw [bd, if_neg (by simp [he])]
  simp only
  rw [if_neg hl, if_neg (by simp [hx]), if_pos hm]
theorem bd_deep {n : Nat} {l : Line} {r : List Line} {s : PS} (he : s.err = 0) (hl : l ≠ [wEnd]) (hx : (stmtM l).ok = true) (hm : ¬ s.many + 1 > 256) (ho : opensM (stmtM l).op = true) : bd (n + 1) 8 (l :: r) s = (.cons (stmtM l).op (stmtM l).args (stmtM l).n .nil .nil, r, ⟨s.i + 1, s.many + 1, 132, s.i⟩) := by
  rw [bd, if_neg (by simp [he])]
  simp only
  rw [if_neg hl, if_neg (by simp [hx]), if_neg hm, if_pos ho, if_pos trivial]
theorem bd_open {n deep : Nat} {l : Line} {r : List Line} {s : PS} (he : s.err = 0) (hl : l ≠ [wEnd]) (hx : (stmtM l).ok = true) (hm : ¬ s.many + 1 > 256) (ho : opensM (stmtM l).op = true) (hd : deep ≠ 8) :
    bd (n + 1) deep (l :: r) s = (.cons (stmtM l).op (stmtM l).args (stmtM l).n (bd n (deep + 1) r ⟨s.i + 1, s.many + 1, 0, s.bad⟩).1 (bd n deep (bd n (deep + 1) r ⟨s.i + 1, s.many + 1, 0, s.bad⟩).2.1 (bd n (deep + 1) r ⟨s.i + 1, s.many + 1, 0, s.bad⟩).2.2).1,
      (bd n deep (bd n (deep + 1) r ⟨s.i + 1, s.many + 1, 0, s.bad⟩).2.1 (bd n (deep + 1) r ⟨s.i + 1, s.many + 1, 0, s.bad⟩).2.2).2.1, (bd n deep (bd n (deep + 1) r ⟨s.i + 1, s.many + 1, 0, s.bad⟩).2.1 (bd n (deep + 1) r ⟨s.i + 1, s.many + 1, 0, s.bad⟩).2.2).2.2) := by
  rw [bd, if_neg (by simp [he])]
  simp only
  rw [if_neg hl, if_neg (by simp [hx]), if_neg hm, if_pos ho, if_neg hd]
theorem bd_plain {n deep : Nat} {l : Line} {r : List Line} {s : PS} (he : s.err = 0) (hl : l ≠ [wEnd]) (hx : (stmtM l).ok = true) (hm : ¬ s.many + 1 > 256) (ho : opensM (stmtM l).op = false) :
    bd (n + 1) deep (l :: r) s = (.cons (stmtM l).op (stmtM l).args (stmtM l).n .nil (bd n deep r ⟨s.i + 1, s.many + 1, 0, s.bad⟩).1, (bd n deep r ⟨s.i + 1, s.many + 1, 0, s.bad⟩).2.1, (bd n deep r ⟨s.i + 1, s.many + 1, 0, s.bad⟩).2.2) := by
  rw [bd, if_neg (by simp [he])]
  simp only
  rw [if_neg hl, if_neg (by simp [hx]), if_neg hm, if_neg (by simp [ho])]
theorem back1 {i : Nat} (h : i ≤ 1000000) : IntKind.wrap .i64 (((i + 1 : Nat) : Int) - 1) = (i : Int) := by
  rw [wrap_sm (n := ((i + 1 : Nat) : Int) - 1) (by omega) (by omega)]; omega
theorem body_loop {G : Str → Prop} (T : Tbs G ρ) {ps : List Wds} {a : Option Addr} {cap : Nat} (X : Lns ρ ps a) (M : Mild (ps.map Wds.x)) (hG : ∀ p, p ∈ ps → ∀ w s, p.x = [w, s] → opOf w = 10 → G s) {pf pn pb pm pa pl cm : Nat} {ns : List Nat} (hns : ∀ c, c ∈ cm :: ns → ρ c = none) :
    ∀ (n deep : Nat) (r : List Line) (s : PS) {h : AW} {μ : Paint} {ρ1 ρ' : Store} {co : Nat} {oa : Option Addr} {oc : Nat} {cells : List Value} {vs : List (Option Addr × Nat × Nat × List Value)} {facc : F} {Q : Value → AW → Prop},
      Own h μ ρ' → Pcs ρ1 ρ' (co :: cm :: ns) (.sl oa oc 4 cells :: .many vs :: stR pf pn pb pm pa pl a ps.length cap s) → ρ1 co = none → Fra [] ρ ρ1 →
      r = (ps.map Wds.x).drop s.i → s.i ≤ ps.length → r.length < n → s.many ≤ s.i → deep ≤ 8 → facc.len ≤ s.i → Lies (Vm vs) facc cells →
      (∀ h' μ' ρ2 co' oa' oc' cells' vs', Own h' μ' ρ2 → Pcs ρ1 ρ2 (co' :: cm :: ns) (.sl oa' oc' 4 cells' :: .many vs' :: stR pf pn pb pm pa pl a ps.length cap (bd n deep r s).2.2) → ρ1 co' = none →
        Lies (Vm vs') (facc.app (bd n deep r s).1) cells' → (∀ x, x ∈ vs → x ∈ vs') → Q (.slice oa' (facc.app (bd n deep r s).1).len oc') h') →
      unitAt P f_action_Parse_fn2 2 [0, 1, 2, 3, 4, 5, 8] [.int .i64 (deep : Int), ptr0 pb, ptr0 pn, ptr0 pa, ptr0 pm, ptr0 pf, .slice oa facc.len oc] h Q := by
  intro n
  induction n with
  | zero => intro deep r s h μ ρ1 ρ' co oa oc cells vs facc Q O W hco Fr hr hi hn; omega
  | succ n ih =>
    intro deep r s h μ ρ1 ρ' co oa oc cells vs facc Q O W hco Fr hr hi hn hmany hd hfl L hq
    have hps : ps.length ≤ 262144 := by have := M.len; simpa using this
    have hnm : ∀ c, c ∈ co :: cm :: ns → ρ c = none := fun c hc => by
      rcases List.mem_cons.1 hc with rfl | hc
      · exact Fr.none0 hco
      · exact hns c hc
    refine r_action_Parse_fn2_2 ?_
    repeat (first | refine ⟨rfl, ?_⟩ | refine ⟨trivial, ?_⟩ | simp only [oB_some, bC_true, bC_false, vInt_int, vBool_bool, vStr_string, vPtr_pointer, vSl_slice, vMap_map, vFun_func, vAgg_agg, vTup_tuple, vIfc_nil, vIfc_iface, lC_cons, lN_nil, aP_some, shO_none, shO_some, Option.isNone_none, Option.isNone_some, Bool.not_true, Bool.not_false] | refine w_rd (by assumption) (by assumption) 0 (by rfl) (by rfl) ?_ | refine w_rd (by assumption) (by assumption) 1 (by rfl) (by rfl) ?_ | refine w_rd (by assumption) (by assumption) 2 (by rfl) (by rfl) ?_ | refine w_rd (by assumption) (by assumption) 3 (by rfl) (by rfl) ?_ | refine w_rd (by assumption) (by assumption) 4 (by rfl) (by rfl) ?_ | refine w_rd (by assumption) (by assumption) 5 (by rfl) (by rfl) ?_ | refine w_rd (by assumption) (by assumption) 6 (by rfl) (by rfl) ?_ | refine w_rd (by assumption) (by assumption) 7 (by rfl) (by rfl) ?_ | refine w_wrL (by assumption) (by assumption) 0 (by rfl) (Nat.le_of_ble_eq_true (by rfl)) (by rfl) fun h ρz O W => ?_ | refine w_wrL (by assumption) (by assumption) 1 (by rfl) (Nat.le_of_ble_eq_true (by rfl)) (by rfl) fun h ρz O W => ?_ | refine w_wrL (by assumption) (by assumption) 2 (by rfl) (Nat.le_of_ble_eq_true (by rfl)) (by rfl) fun h ρz O W => ?_ | refine w_wrL (by assumption) (by assumption) 3 (by rfl) (Nat.le_of_ble_eq_true (by rfl)) (by rfl) fun h ρz O W => ?_ | refine w_wrL (by assumption) (by assumption) 4 (by rfl) (Nat.le_of_ble_eq_true (by rfl)) (by rfl) fun h ρz O W => ?_ | refine w_wrL (by assumption) (by assumption) 5 (by rfl) (Nat.le_of_ble_eq_true (by rfl)) (by rfl) fun h ρz O W => ?_ | refine w_wrL (by assumption) (by assumption) 6 (by rfl) (Nat.le_of_ble_eq_true (by rfl)) (by rfl) fun h ρz O W => ?_ | refine w_wrL (by assumption) (by assumption) 7 (by rfl) (Nat.le_of_ble_eq_true (by rfl)) (by rfl) fun h ρz O W => ?_ | refine w_wr (by assumption) (by assumption) 0 (by rfl) (Nat.le_of_ble_eq_true (by rfl)) (by rfl) fun h ρz O W => ?_ | refine w_wr (by assumption) (by assumption) 1 (by rfl) (Nat.le_of_ble_eq_true (by rfl)) (by rfl) fun h ρz O W => ?_ | refine w_wr (by assumption) (by assumption) 2 (by rfl) (Nat.le_of_ble_eq_true (by rfl)) (by rfl) fun h ρz O W => ?_ | refine w_wr (by assumption) (by assumption) 3 (by rfl) (Nat.le_of_ble_eq_true (by rfl)) (by rfl) fun h ρz O W => ?_ | refine w_wr (by assumption) (by assumption) 4 (by rfl) (Nat.le_of_ble_eq_true (by rfl)) (by rfl) fun h ρz O W => ?_ | refine w_wr (by assumption) (by assumption) 5 (by rfl) (Nat.le_of_ble_eq_true (by rfl)) (by rfl) fun h ρz O W => ?_ | refine w_wr (by assumption) (by assumption) 6 (by rfl) (Nat.le_of_ble_eq_true (by rfl)) (by rfl) fun h ρz O W => ?_ | refine w_wr (by assumption) (by assumption) 7 (by rfl) (Nat.le_of_ble_eq_true (by rfl)) (by rfl) fun h ρz O W => ?_)
    refine bC_iff (fun e => ?_) (fun e => ?_)
    rotate_left
    · have ne : s.err ≠ 0 := neI e
      have := hq h μ ρ' co oa oc cells vs O (by rw [bd_err ne]; exact W) hco (by rw [bd_err ne, F.app_nil]; exact L) (fun _ x => x)
      rw [bd_err ne, F.app_nil] at this
      exact this
    have he : s.err = 0 := eqI e
    have hs : (⟨s.i, s.many, 0, s.bad⟩ : PS) = s := by rw [← he]
    replace W : Pcs ρ1 ρ' (co :: cm :: ns) (.sl oa oc 4 cells :: .many vs :: stR pf pn pb pm pa pl a ps.length cap ⟨s.i, s.many, 0, s.bad⟩) := by rw [hs]; exact W
    repeat (first | refine ⟨rfl, ?_⟩ | refine ⟨trivial, ?_⟩ | simp only [oB_some, bC_true, bC_false, vInt_int, vBool_bool, vStr_string, vPtr_pointer, vSl_slice, vMap_map, vFun_func, vAgg_agg, vTup_tuple, vIfc_nil, vIfc_iface, lC_cons, lN_nil, aP_some, shO_none, shO_some, Option.isNone_none, Option.isNone_some, Bool.not_true, Bool.not_false] | refine w_rd (by assumption) (by assumption) 0 (by rfl) (by rfl) ?_ | refine w_rd (by assumption) (by assumption) 1 (by rfl) (by rfl) ?_ | refine w_rd (by assumption) (by assumption) 2 (by rfl) (by rfl) ?_ | refine w_rd (by assumption) (by assumption) 3 (by rfl) (by rfl) ?_ | refine w_rd (by assumption) (by assumption) 4 (by rfl) (by rfl) ?_ | refine w_rd (by assumption) (by assumption) 5 (by rfl) (by rfl) ?_ | refine w_rd (by assumption) (by assumption) 6 (by rfl) (by rfl) ?_ | refine w_rd (by assumption) (by assumption) 7 (by rfl) (by rfl) ?_ | refine w_wrL (by assumption) (by assumption) 0 (by rfl) (Nat.le_of_ble_eq_true (by rfl)) (by rfl) fun h ρz O W => ?_ | refine w_wrL (by assumption) (by assumption) 1 (by rfl) (Nat.le_of_ble_eq_true (by rfl)) (by rfl) fun h ρz O W => ?_ | refine w_wrL (by assumption) (by assumption) 2 (by rfl) (Nat.le_of_ble_eq_true (by rfl)) (by rfl) fun h ρz O W => ?_ | refine w_wrL (by assumption) (by assumption) 3 (by rfl) (Nat.le_of_ble_eq_true (by rfl)) (by rfl) fun h ρz O W => ?_ | refine w_wrL (by assumption) (by assumption) 4 (by rfl) (Nat.le_of_ble_eq_true (by rfl)) (by rfl) fun h ρz O W => ?_ | refine w_wrL (by assumption) (by assumption) 5 (by rfl) (Nat.le_of_ble_eq_true (by rfl)) (by rfl) fun h ρz O W => ?_ | refine w_wrL (by assumption) (by assumption) 6 (by rfl) (Nat.le_of_ble_eq_true (by rfl)) (by rfl) fun h ρz O W => ?_ | refine w_wrL (by assumption) (by assumption) 7 (by rfl) (Nat.le_of_ble_eq_true (by rfl)) (by rfl) fun h ρz O W => ?_ | refine w_wr (by assumption) (by assumption) 0 (by rfl) (Nat.le_of_ble_eq_true (by rfl)) (by rfl) fun h ρz O W => ?_ | refine w_wr (by assumption) (by assumption) 1 (by rfl) (Nat.le_of_ble_eq_true (by rfl)) (by rfl) fun h ρz O W => ?_ | refine w_wr (by assumption) (by assumption) 2 (by rfl) (Nat.le_of_ble_eq_true (by rfl)) (by rfl) fun h ρz O W => ?_ | refine w_wr (by assumption) (by assumption) 3 (by rfl) (Nat.le_of_ble_eq_true (by rfl)) (by rfl) fun h ρz O W => ?_ | refine w_wr (by assumption) (by assumption) 4 (by rfl) (Nat.le_of_ble_eq_true (by rfl)) (by rfl) fun h ρz O W => ?_ | refine w_wr (by assumption) (by assumption) 5 (by rfl) (Nat.le_of_ble_eq_true (by rfl)) (by rfl) fun h ρz O W => ?_ | refine w_wr (by assumption) (by assumption) 6 (by rfl) (Nat.le_of_ble_eq_true (by rfl)) (by rfl) fun h ρz O W => ?_ | refine w_wr (by assumption) (by assumption) 7 (by rfl) (Nat.le_of_ble_eq_true (by rfl)) (by rfl) fun h ρz O W => ?_)
    refine r_action_Parse_fn1 ?_
    repeat (first | refine ⟨rfl, ?_⟩ | refine ⟨trivial, ?_⟩ | simp only [oB_some, bC_true, bC_false, vInt_int, vBool_bool, vStr_string, vPtr_pointer, vSl_slice, vMap_map, vFun_func, vAgg_agg, vTup_tuple, vIfc_nil, vIfc_iface, lC_cons, lN_nil, aP_some, shO_none, shO_some, Option.isNone_none, Option.isNone_some, Bool.not_true, Bool.not_false] | refine w_rd (by assumption) (by assumption) 0 (by rfl) (by rfl) ?_ | refine w_rd (by assumption) (by assumption) 1 (by rfl) (by rfl) ?_ | refine w_rd (by assumption) (by assumption) 2 (by rfl) (by rfl) ?_ | refine w_rd (by assumption) (by assumption) 3 (by rfl) (by rfl) ?_ | refine w_rd (by assumption) (by assumption) 4 (by rfl) (by rfl) ?_ | refine w_rd (by assumption) (by assumption) 5 (by rfl) (by rfl) ?_ | refine w_rd (by assumption) (by assumption) 6 (by rfl) (by rfl) ?_ | refine w_rd (by assumption) (by assumption) 7 (by rfl) (by rfl) ?_ | refine w_wrL (by assumption) (by assumption) 0 (by rfl) (Nat.le_of_ble_eq_true (by rfl)) (by rfl) fun h ρz O W => ?_ | refine w_wrL (by assumption) (by assumption) 1 (by rfl) (Nat.le_of_ble_eq_true (by rfl)) (by rfl) fun h ρz O W => ?_ | refine w_wrL (by assumption) (by assumption) 2 (by rfl) (Nat.le_of_ble_eq_true (by rfl)) (by rfl) fun h ρz O W => ?_ | refine w_wrL (by assumption) (by assumption) 3 (by rfl) (Nat.le_of_ble_eq_true (by rfl)) (by rfl) fun h ρz O W => ?_ | refine w_wrL (by assumption) (by assumption) 4 (by rfl) (Nat.le_of_ble_eq_true (by rfl)) (by rfl) fun h ρz O W => ?_ | refine w_wrL (by assumption) (by assumption) 5 (by rfl) (Nat.le_of_ble_eq_true (by rfl)) (by rfl) fun h ρz O W => ?_ | refine w_wrL (by assumption) (by assumption) 6 (by rfl) (Nat.le_of_ble_eq_true (by rfl)) (by rfl) fun h ρz O W => ?_ | refine w_wrL (by assumption) (by assumption) 7 (by rfl) (Nat.le_of_ble_eq_true (by rfl)) (by rfl) fun h ρz O W => ?_ | refine w_wr (by assumption) (by assumption) 0 (by rfl) (Nat.le_of_ble_eq_true (by rfl)) (by rfl) fun h ρz O W => ?_ | refine w_wr (by assumption) (by assumption) 1 (by rfl) (Nat.le_of_ble_eq_true (by rfl)) (by rfl) fun h ρz O W => ?_ | refine w_wr (by assumption) (by assumption) 2 (by rfl) (Nat.le_of_ble_eq_true (by rfl)) (by rfl) fun h ρz O W => ?_ | refine w_wr (by assumption) (by assumption) 3 (by rfl) (Nat.le_of_ble_eq_true (by rfl)) (by rfl) fun h ρz O W => ?_ | refine w_wr (by assumption) (by assumption) 4 (by rfl) (Nat.le_of_ble_eq_true (by rfl)) (by rfl) fun h ρz O W => ?_ | refine w_wr (by assumption) (by assumption) 5 (by rfl) (Nat.le_of_ble_eq_true (by rfl)) (by rfl) fun h ρz O W => ?_ | refine w_wr (by assumption) (by assumption) 6 (by rfl) (Nat.le_of_ble_eq_true (by rfl)) (by rfl) fun h ρz O W => ?_ | refine w_wr (by assumption) (by assumption) 7 (by rfl) (Nat.le_of_ble_eq_true (by rfl)) (by rfl) fun h ρz O W => ?_)
    refine bC_iff (fun e => ?_) (fun e => ?_)
    · have e := eqI e
      have : r = [] := by rw [hr]; exact List.drop_eq_nil_of_le (by simp; omega)
      rw [this, bd_nil he] at hq
      obtain ⟨si, sm, se, sb⟩ := s
      simp only at he
      subst he
      repeat (first | refine ⟨rfl, ?_⟩ | refine ⟨trivial, ?_⟩ | simp only [oB_some, bC_true, bC_false, vInt_int, vBool_bool, vStr_string, vPtr_pointer, vSl_slice, vMap_map, vFun_func, vAgg_agg, vTup_tuple, vIfc_nil, vIfc_iface, lC_cons, lN_nil, aP_some, shO_none, shO_some, Option.isNone_none, Option.isNone_some, Bool.not_true, Bool.not_false] | refine w_rd (by assumption) (by assumption) 0 (by rfl) (by rfl) ?_ | refine w_rd (by assumption) (by assumption) 1 (by rfl) (by rfl) ?_ | refine w_rd (by assumption) (by assumption) 2 (by rfl) (by rfl) ?_ | refine w_rd (by assumption) (by assumption) 3 (by rfl) (by rfl) ?_ | refine w_rd (by assumption) (by assumption) 4 (by rfl) (by rfl) ?_ | refine w_rd (by assumption) (by assumption) 5 (by rfl) (by rfl) ?_ | refine w_rd (by assumption) (by assumption) 6 (by rfl) (by rfl) ?_ | refine w_rd (by assumption) (by assumption) 7 (by rfl) (by rfl) ?_ | refine w_wrL (by assumption) (by assumption) 0 (by rfl) (Nat.le_of_ble_eq_true (by rfl)) (by rfl) fun h ρz O W => ?_ | refine w_wrL (by assumption) (by assumption) 1 (by rfl) (Nat.le_of_ble_eq_true (by rfl)) (by rfl) fun h ρz O W => ?_ | refine w_wrL (by assumption) (by assumption) 2 (by rfl) (Nat.le_of_ble_eq_true (by rfl)) (by rfl) fun h ρz O W => ?_ | refine w_wrL (by assumption) (by assumption) 3 (by rfl) (Nat.le_of_ble_eq_true (by rfl)) (by rfl) fun h ρz O W => ?_ | refine w_wrL (by assumption) (by assumption) 4 (by rfl) (Nat.le_of_ble_eq_true (by rfl)) (by rfl) fun h ρz O W => ?_ | refine w_wrL (by assumption) (by assumption) 5 (by rfl) (Nat.le_of_ble_eq_true (by rfl)) (by rfl) fun h ρz O W => ?_ | refine w_wrL (by assumption) (by assumption) 6 (by rfl) (Nat.le_of_ble_eq_true (by rfl)) (by rfl) fun h ρz O W => ?_ | refine w_wrL (by assumption) (by assumption) 7 (by rfl) (Nat.le_of_ble_eq_true (by rfl)) (by rfl) fun h ρz O W => ?_ | refine w_wr (by assumption) (by assumption) 0 (by rfl) (Nat.le_of_ble_eq_true (by rfl)) (by rfl) fun h ρz O W => ?_ | refine w_wr (by assumption) (by assumption) 1 (by rfl) (Nat.le_of_ble_eq_true (by rfl)) (by rfl) fun h ρz O W => ?_ | refine w_wr (by assumption) (by assumption) 2 (by rfl) (Nat.le_of_ble_eq_true (by rfl)) (by rfl) fun h ρz O W => ?_ | refine w_wr (by assumption) (by assumption) 3 (by rfl) (Nat.le_of_ble_eq_true (by rfl)) (by rfl) fun h ρz O W => ?_ | refine w_wr (by assumption) (by assumption) 4 (by rfl) (Nat.le_of_ble_eq_true (by rfl)) (by rfl) fun h ρz O W => ?_ | refine w_wr (by assumption) (by assumption) 5 (by rfl) (Nat.le_of_ble_eq_true (by rfl)) (by rfl) fun h ρz O W => ?_ | refine w_wr (by assumption) (by assumption) 6 (by rfl) (Nat.le_of_ble_eq_true (by rfl)) (by rfl) fun h ρz O W => ?_ | refine w_wr (by assumption) (by assumption) 7 (by rfl) (Nat.le_of_ble_eq_true (by rfl)) (by rfl) fun h ρz O W => ?_)
      refine bC_iff (fun e2 => ?_) (fun e2 => ?_)
      · have e2 : deep > 0 := by have := of_decide_eq_true e2; omega
        rw [if_pos e2, F.app_nil] at hq
        repeat (first | refine ⟨rfl, ?_⟩ | refine ⟨trivial, ?_⟩ | simp only [oB_some, bC_true, bC_false, vInt_int, vBool_bool, vStr_string, vPtr_pointer, vSl_slice, vMap_map, vFun_func, vAgg_agg, vTup_tuple, vIfc_nil, vIfc_iface, lC_cons, lN_nil, aP_some, shO_none, shO_some, Option.isNone_none, Option.isNone_some, Bool.not_true, Bool.not_false] | refine w_rd (by assumption) (by assumption) 0 (by rfl) (by rfl) ?_ | refine w_rd (by assumption) (by assumption) 1 (by rfl) (by rfl) ?_ | refine w_rd (by assumption) (by assumption) 2 (by rfl) (by rfl) ?_ | refine w_rd (by assumption) (by assumption) 3 (by rfl) (by rfl) ?_ | refine w_rd (by assumption) (by assumption) 4 (by rfl) (by rfl) ?_ | refine w_rd (by assumption) (by assumption) 5 (by rfl) (by rfl) ?_ | refine w_rd (by assumption) (by assumption) 6 (by rfl) (by rfl) ?_ | refine w_rd (by assumption) (by assumption) 7 (by rfl) (by rfl) ?_ | refine w_wrL (by assumption) (by assumption) 0 (by rfl) (Nat.le_of_ble_eq_true (by rfl)) (by rfl) fun h ρz O W => ?_ | refine w_wrL (by assumption) (by assumption) 1 (by rfl) (Nat.le_of_ble_eq_true (by rfl)) (by rfl) fun h ρz O W => ?_ | refine w_wrL (by assumption) (by assumption) 2 (by rfl) (Nat.le_of_ble_eq_true (by rfl)) (by rfl) fun h ρz O W => ?_ | refine w_wrL (by assumption) (by assumption) 3 (by rfl) (Nat.le_of_ble_eq_true (by rfl)) (by rfl) fun h ρz O W => ?_ | refine w_wrL (by assumption) (by assumption) 4 (by rfl) (Nat.le_of_ble_eq_true (by rfl)) (by rfl) fun h ρz O W => ?_ | refine w_wrL (by assumption) (by assumption) 5 (by rfl) (Nat.le_of_ble_eq_true (by rfl)) (by rfl) fun h ρz O W => ?_ | refine w_wrL (by assumption) (by assumption) 6 (by rfl) (Nat.le_of_ble_eq_true (by rfl)) (by rfl) fun h ρz O W => ?_ | refine w_wrL (by assumption) (by assumption) 7 (by rfl) (Nat.le_of_ble_eq_true (by rfl)) (by rfl) fun h ρz O W => ?_ | refine w_wr (by assumption) (by assumption) 0 (by rfl) (Nat.le_of_ble_eq_true (by rfl)) (by rfl) fun h ρz O W => ?_ | refine w_wr (by assumption) (by assumption) 1 (by rfl) (Nat.le_of_ble_eq_true (by rfl)) (by rfl) fun h ρz O W => ?_ | refine w_wr (by assumption) (by assumption) 2 (by rfl) (Nat.le_of_ble_eq_true (by rfl)) (by rfl) fun h ρz O W => ?_ | refine w_wr (by assumption) (by assumption) 3 (by rfl) (Nat.le_of_ble_eq_true (by rfl)) (by rfl) fun h ρz O W => ?_ | refine w_wr (by assumption) (by assumption) 4 (by rfl) (Nat.le_of_ble_eq_true (by rfl)) (by rfl) fun h ρz O W => ?_ | refine w_wr (by assumption) (by assumption) 5 (by rfl) (Nat.le_of_ble_eq_true (by rfl)) (by rfl) fun h ρz O W => ?_ | refine w_wr (by assumption) (by assumption) 6 (by rfl) (Nat.le_of_ble_eq_true (by rfl)) (by rfl) fun h ρz O W => ?_ | refine w_wr (by assumption) (by assumption) 7 (by rfl) (Nat.le_of_ble_eq_true (by rfl)) (by rfl) fun h ρz O W => ?_)
        exact hq _ _ _ _ _ _ _ _ (by assumption) (by assumption) hco L (fun _ x => x)
      · have e2 : ¬ deep > 0 := by have := of_decide_eq_false e2; omega
        rw [if_neg e2, F.app_nil] at hq
        exact hq _ _ _ _ _ _ _ _ O W hco L (fun _ x => x)
    have e := neI e
    have hlt : s.i < ps.length := by omega
    have hlt' : s.i < (ps.map Wds.x).length := by simpa using hlt
    obtain ⟨r', hr1, hr2⟩ : ∃ r', r = (ps[s.i]).x :: r' ∧ r' = (ps.map Wds.x).drop (s.i + 1) := by
      refine ⟨_, ?_, rfl⟩
      rw [hr, List.drop_eq_getElem_cons hlt']; simp
    subst hr1
    simp only [List.length_cons] at hn
    refine w_rd O W 6 rfl rfl ?_
    simp only [oB_some, bC_true, bC_false, vInt_int, vBool_bool, vStr_string, vPtr_pointer, vSl_slice, vMap_map, vFun_func, vAgg_agg, vTup_tuple, vIfc_nil, vIfc_iface, lC_cons, lN_nil, aP_some, shO_none, shO_some, Option.isNone_none, Option.isNone_some, Bool.not_true, Bool.not_false]
    rw [wrapS (by omega)]
    refine w_wr O W 6 (j := 0) rfl (Nat.le_of_ble_eq_true rfl) rfl fun h ρ2 O W => ?_
    repeat (first | refine ⟨rfl, ?_⟩ | refine ⟨trivial, ?_⟩ | simp only [oB_some, bC_true, bC_false, vInt_int, vBool_bool, vStr_string, vPtr_pointer, vSl_slice, vMap_map, vFun_func, vAgg_agg, vTup_tuple, vIfc_nil, vIfc_iface, lC_cons, lN_nil, aP_some, shO_none, shO_some, Option.isNone_none, Option.isNone_some, Bool.not_true, Bool.not_false] | refine w_rd (by assumption) (by assumption) 0 (by rfl) (by rfl) ?_ | refine w_rd (by assumption) (by assumption) 1 (by rfl) (by rfl) ?_ | refine w_rd (by assumption) (by assumption) 2 (by rfl) (by rfl) ?_ | refine w_rd (by assumption) (by assumption) 3 (by rfl) (by rfl) ?_ | refine w_rd (by assumption) (by assumption) 4 (by rfl) (by rfl) ?_ | refine w_rd (by assumption) (by assumption) 5 (by rfl) (by rfl) ?_ | refine w_rd (by assumption) (by assumption) 6 (by rfl) (by rfl) ?_ | refine w_rd (by assumption) (by assumption) 7 (by rfl) (by rfl) ?_ | refine w_wrL (by assumption) (by assumption) 0 (by rfl) (Nat.le_of_ble_eq_true (by rfl)) (by rfl) fun h ρz O W => ?_ | refine w_wrL (by assumption) (by assumption) 1 (by rfl) (Nat.le_of_ble_eq_true (by rfl)) (by rfl) fun h ρz O W => ?_ | refine w_wrL (by assumption) (by assumption) 2 (by rfl) (Nat.le_of_ble_eq_true (by rfl)) (by rfl) fun h ρz O W => ?_ | refine w_wrL (by assumption) (by assumption) 3 (by rfl) (Nat.le_of_ble_eq_true (by rfl)) (by rfl) fun h ρz O W => ?_ | refine w_wrL (by assumption) (by assumption) 4 (by rfl) (Nat.le_of_ble_eq_true (by rfl)) (by rfl) fun h ρz O W => ?_ | refine w_wrL (by assumption) (by assumption) 5 (by rfl) (Nat.le_of_ble_eq_true (by rfl)) (by rfl) fun h ρz O W => ?_ | refine w_wrL (by assumption) (by assumption) 6 (by rfl) (Nat.le_of_ble_eq_true (by rfl)) (by rfl) fun h ρz O W => ?_ | refine w_wrL (by assumption) (by assumption) 7 (by rfl) (Nat.le_of_ble_eq_true (by rfl)) (by rfl) fun h ρz O W => ?_ | refine w_wr (by assumption) (by assumption) 0 (by rfl) (Nat.le_of_ble_eq_true (by rfl)) (by rfl) fun h ρz O W => ?_ | refine w_wr (by assumption) (by assumption) 1 (by rfl) (Nat.le_of_ble_eq_true (by rfl)) (by rfl) fun h ρz O W => ?_ | refine w_wr (by assumption) (by assumption) 2 (by rfl) (Nat.le_of_ble_eq_true (by rfl)) (by rfl) fun h ρz O W => ?_ | refine w_wr (by assumption) (by assumption) 3 (by rfl) (Nat.le_of_ble_eq_true (by rfl)) (by rfl) fun h ρz O W => ?_ | refine w_wr (by assumption) (by assumption) 4 (by rfl) (Nat.le_of_ble_eq_true (by rfl)) (by rfl) fun h ρz O W => ?_ | refine w_wr (by assumption) (by assumption) 5 (by rfl) (Nat.le_of_ble_eq_true (by rfl)) (by rfl) fun h ρz O W => ?_ | refine w_wr (by assumption) (by assumption) 6 (by rfl) (Nat.le_of_ble_eq_true (by rfl)) (by rfl) fun h ρz O W => ?_ | refine w_wr (by assumption) (by assumption) 7 (by rfl) (Nat.le_of_ble_eq_true (by rfl)) (by rfl) fun h ρz O W => ?_)
    rw [back1 (by omega)]
    have F2 : Fra [] ρ ρ2 := Fr.via W.fra hnm
    refine ln_at O (X.keep F2) rfl rfl hlt fun V => ?_
    have hcap := X.caps _ (List.getElem_mem hlt)
    have hlen : (ps[s.i]).x.length ≤ 262144 := M.wds _ (List.mem_map_of_mem (List.getElem_mem hlt))
    have tail : (ps[s.i]).x ≠ [wEnd] →
      EvQ P f_action_stmt [Value.slice (ps[s.i]).a ps[s.i].x.length ps[s.i].cap] h fun v43 h44 => vTup v43 fun l45 => lC l45 fun v46 l47 => vAgg v46 fun l48 => lC l48 fun v49 l50 => vInt IntKind.i64 v49 fun n51 => lC l50
      fun v52 l53 => vSl v52 fun p54 m55 m56 => lC l53 fun v57 l58 => vInt IntKind.i64 v57 fun n59 => lC l58 fun v60 l61 => vSl v60 fun p62 m63 m64 => lN l61 (lC l47 fun v65 l66 => vBool v65
      fun b67 => lN l66 (oB (AW.wrL (AW.addVar h44 [Value.int IntKind.i64 0, Value.slice none 0 0, Value.int IntKind.i64 0, Value.slice none 0 0]) (AW.next h44) 0 [Value.int IntKind.i64 n51,
      Value.slice p54 m55 m56, Value.int IntKind.i64 n59, Value.slice p62 m63 m64]) fun h68 => oB (AW.rd h68 pm 0) fun v69 => vInt IntKind.i64 v69 fun n70 => oB (AW.wr h68 pm 0 (Value.int
      IntKind.i64 (IntKind.wrap IntKind.i64 (n70 + 1)))) fun h71 => bC (!b67) (oB (AW.rd h71 pa 0) fun v72 => vInt IntKind.i64 v72 fun n73 => oB (AW.wrL h71 pb 0 [Value.int IntKind.i64 130,
      Value.int IntKind.i64 (IntKind.wrap IntKind.i64 (n73 - 1))]) fun h74 => oB (AW.rd h74 (AW.next h44) 0) fun v75 => vInt IntKind.i64 v75 fun n76 => oB (AW.rd h74 (AW.next h44) 1) fun v77
      => vSl v77 fun p78 m79 m80 => oB (AW.rd h74 (AW.next h44) 2) fun v81 => vInt IntKind.i64 v81 fun n82 => oB (AW.rd h74 (AW.next h44) 3) fun v83 => vSl v83 fun p84 m85 m86 => oP (appendB
      P (AW.addVar h74 [Value.int IntKind.i64 n76, Value.slice p78 m79 m80, Value.int IntKind.i64 n82, Value.slice p84 m85 m86]) (Array.mk [ty_sl_api_Stmt, ty_sl_api_Stmt]) [Value.slice oa
      facc.len oc, Value.slice (some (Addr.mk (AW.next h74) 0 none)) 1 1]) fun v87 h88 => vSl v87 fun p89 m90 m91 => unitAt P f_action_Parse_fn2 2 [0, 1, 2, 3, 4, 5, 8] [Value.int
      IntKind.i64 (deep : Int), Value.pointer (some (Addr.mk pb 0 none)), Value.pointer (some (Addr.mk pn 0 none)), Value.pointer (some (Addr.mk pa 0 none)), Value.pointer (some (Addr.mk pm
      0 none)), Value.pointer (some (Addr.mk pf 0 none)), Value.slice p89 m90 m91] h88 Q) (oB (AW.rd h71 pm 0) fun v92 => vInt IntKind.i64 v92 fun n93 => bC (decide (n93 > 256)) (oB (AW.rd
      h71 pa 0) fun v94 => vInt IntKind.i64 v94 fun n95 => oB (AW.wrL h71 pb 0 [Value.int IntKind.i64 3, Value.int IntKind.i64 (IntKind.wrap IntKind.i64 (n95 - 1))]) fun h96 => oB (AW.rd h96
      (AW.next h44) 0) fun v97 => vInt IntKind.i64 v97 fun n98 => oB (AW.rd h96 (AW.next h44) 1) fun v99 => vSl v99 fun p100 m101 m102 => oB (AW.rd h96 (AW.next h44) 2) fun v103 => vInt
      IntKind.i64 v103 fun n104 => oB (AW.rd h96 (AW.next h44) 3) fun v105 => vSl v105 fun p106 m107 m108 => oP (appendB P (AW.addVar h96 [Value.int IntKind.i64 n98, Value.slice p100 m101
      m102, Value.int IntKind.i64 n104, Value.slice p106 m107 m108]) (Array.mk [ty_sl_api_Stmt, ty_sl_api_Stmt]) [Value.slice oa facc.len oc, Value.slice (some (Addr.mk (AW.next h96) 0
      none)) 1 1]) fun v109 h110 => vSl v109 fun p111 m112 m113 => unitAt P f_action_Parse_fn2 2 [0, 1, 2, 3, 4, 5, 8] [Value.int IntKind.i64 (deep : Int), Value.pointer (some (Addr.mk pb 0
      none)), Value.pointer (some (Addr.mk pn 0 none)), Value.pointer (some (Addr.mk pa 0 none)), Value.pointer (some (Addr.mk pm 0 none)), Value.pointer (some (Addr.mk pf 0 none)),
      Value.slice p111 m112 m113] h110 Q) (oB (AW.rd h71 (AW.next h44) 0) fun v114 => vInt IntKind.i64 v114 fun n115 => EvQ P f_action_opens [Value.int IntKind.i64 n115] h71 fun v116 h117 =>
      vBool v116 fun b118 => bC b118 (bC ((deep : Int) == 8) (oB (AW.rd h117 pa 0) fun v119 => vInt IntKind.i64 v119 fun n120 => oB (AW.wrL h117 pb 0 [Value.int IntKind.i64 132, Value.int
      IntKind.i64 (IntKind.wrap IntKind.i64 (n120 - 1))]) fun h121 => oB (AW.rd h121 (AW.next h44) 0) fun v122 => vInt IntKind.i64 v122 fun n123 => oB (AW.rd h121 (AW.next h44) 1) fun v124
      => vSl v124 fun p125 m126 m127 => oB (AW.rd h121 (AW.next h44) 2) fun v128 => vInt IntKind.i64 v128 fun n129 => oB (AW.rd h121 (AW.next h44) 3) fun v130 => vSl v130 fun p131 m132 m133
      => oP (appendB P (AW.addVar h121 [Value.int IntKind.i64 n123, Value.slice p125 m126 m127, Value.int IntKind.i64 n129, Value.slice p131 m132 m133]) (Array.mk [ty_sl_api_Stmt,
      ty_sl_api_Stmt]) [Value.slice oa facc.len oc, Value.slice (some (Addr.mk (AW.next h121) 0 none)) 1 1]) fun v134 h135 => vSl v134 fun p136 m137 m138 => unitAt P f_action_Parse_fn2 2 [0,
      1, 2, 3, 4, 5, 8] [Value.int IntKind.i64 (deep : Int), Value.pointer (some (Addr.mk pb 0 none)), Value.pointer (some (Addr.mk pn 0 none)), Value.pointer (some (Addr.mk pa 0 none)),
      Value.pointer (some (Addr.mk pm 0 none)), Value.pointer (some (Addr.mk pf 0 none)), Value.slice p136 m137 m138] h135 Q) (oB (AW.rd h117 (AW.next h44) 0) fun v139 => vInt IntKind.i64
      v139 fun n140 => EvQ P f_action_opens [Value.int IntKind.i64 n140] h117 fun v141 h142 => vBool v141 fun b143 => bC b143 (oB (AW.rd h142 pf 0) fun v144 => vFun v144 fun m145 l146 l147
      => EvQ P m145 (l146 ++ Value.int IntKind.i64 (IntKind.wrap IntKind.i64 ((deep : Int) + 1)) :: l147) h142 fun v148 h149 => vSl v148 fun p150 m151 m152 => oB (AW.wr h149 (AW.next h44) 3
      (Value.slice p150 m151 m152)) fun h153 => oB (AW.rd h153 (AW.next h44) 0) fun v154 => vInt IntKind.i64 v154 fun n155 => oB (AW.rd h153 (AW.next h44) 1) fun v156 => vSl v156 fun p157
      m158 m159 => oB (AW.rd h153 (AW.next h44) 2) fun v160 => vInt IntKind.i64 v160 fun n161 => oB (AW.rd h153 (AW.next h44) 3) fun v162 => vSl v162 fun p163 m164 m165 => oP (appendB P
      (AW.addVar h153 [Value.int IntKind.i64 n155, Value.slice p157 m158 m159, Value.int IntKind.i64 n161, Value.slice p163 m164 m165]) (Array.mk [ty_sl_api_Stmt, ty_sl_api_Stmt])
      [Value.slice oa facc.len oc, Value.slice (some (Addr.mk (AW.next h153) 0 none)) 1 1]) fun v166 h167 => vSl v166 fun p168 m169 m170 => unitAt P f_action_Parse_fn2 2 [0, 1, 2, 3, 4, 5,
      8] [Value.int IntKind.i64 (deep : Int), Value.pointer (some (Addr.mk pb 0 none)), Value.pointer (some (Addr.mk pn 0 none)), Value.pointer (some (Addr.mk pa 0 none)), Value.pointer
      (some (Addr.mk pm 0 none)), Value.pointer (some (Addr.mk pf 0 none)), Value.slice p168 m169 m170] h167 Q) (oB (AW.rd h142 (AW.next h44) 0) fun v171 => vInt IntKind.i64 v171 fun n172 =>
      oB (AW.rd h142 (AW.next h44) 1) fun v173 => vSl v173 fun p174 m175 m176 => oB (AW.rd h142 (AW.next h44) 2) fun v177 => vInt IntKind.i64 v177 fun n178 => oB (AW.rd h142 (AW.next h44) 3)
      fun v179 => vSl v179 fun p180 m181 m182 => oP (appendB P (AW.addVar h142 [Value.int IntKind.i64 n172, Value.slice p174 m175 m176, Value.int IntKind.i64 n178, Value.slice p180 m181
      m182]) (Array.mk [ty_sl_api_Stmt, ty_sl_api_Stmt]) [Value.slice oa facc.len oc, Value.slice (some (Addr.mk (AW.next h142) 0 none)) 1 1]) fun v183 h184 => vSl v183 fun p185 m186 m187 =>
      unitAt P f_action_Parse_fn2 2 [0, 1, 2, 3, 4, 5, 8] [Value.int IntKind.i64 (deep : Int), Value.pointer (some (Addr.mk pb 0 none)), Value.pointer (some (Addr.mk pn 0 none)),
      Value.pointer (some (Addr.mk pa 0 none)), Value.pointer (some (Addr.mk pm 0 none)), Value.pointer (some (Addr.mk pf 0 none)), Value.slice p185 m186 m187] h184 Q))) (oB (AW.rd h117
      (AW.next h44) 0) fun v188 => vInt IntKind.i64 v188 fun n189 => EvQ P f_action_opens [Value.int IntKind.i64 n189] h117 fun v190 h191 => vBool v190 fun b192 => bC b192 (oB (AW.rd h191 pf
      0) fun v193 => vFun v193 fun m194 l195 l196 => EvQ P m194 (l195 ++ Value.int IntKind.i64 (IntKind.wrap IntKind.i64 ((deep : Int) + 1)) :: l196) h191 fun v197 h198 => vSl v197 fun p199
      m200 m201 => oB (AW.wr h198 (AW.next h44) 3 (Value.slice p199 m200 m201)) fun h202 => oB (AW.rd h202 (AW.next h44) 0) fun v203 => vInt IntKind.i64 v203 fun n204 => oB (AW.rd h202
      (AW.next h44) 1) fun v205 => vSl v205 fun p206 m207 m208 => oB (AW.rd h202 (AW.next h44) 2) fun v209 => vInt IntKind.i64 v209 fun n210 => oB (AW.rd h202 (AW.next h44) 3) fun v211 =>
      vSl v211 fun p212 m213 m214 => oP (appendB P (AW.addVar h202 [Value.int IntKind.i64 n204, Value.slice p206 m207 m208, Value.int IntKind.i64 n210, Value.slice p212 m213 m214]) (Array.mk
      [ty_sl_api_Stmt, ty_sl_api_Stmt]) [Value.slice oa facc.len oc, Value.slice (some (Addr.mk (AW.next h202) 0 none)) 1 1]) fun v215 h216 => vSl v215 fun p217 m218 m219 => unitAt P
      f_action_Parse_fn2 2 [0, 1, 2, 3, 4, 5, 8] [Value.int IntKind.i64 (deep : Int), Value.pointer (some (Addr.mk pb 0 none)), Value.pointer (some (Addr.mk pn 0 none)), Value.pointer (some
      (Addr.mk pa 0 none)), Value.pointer (some (Addr.mk pm 0 none)), Value.pointer (some (Addr.mk pf 0 none)), Value.slice p217 m218 m219] h216 Q) (oB (AW.rd h191 (AW.next h44) 0) fun v220
      => vInt IntKind.i64 v220 fun n221 => oB (AW.rd h191 (AW.next h44) 1) fun v222 => vSl v222 fun p223 m224 m225 => oB (AW.rd h191 (AW.next h44) 2) fun v226 => vInt IntKind.i64 v226 fun
      n227 => oB (AW.rd h191 (AW.next h44) 3) fun v228 => vSl v228 fun p229 m230 m231 => oP (appendB P (AW.addVar h191 [Value.int IntKind.i64 n221, Value.slice p223 m224 m225, Value.int
      IntKind.i64 n227, Value.slice p229 m230 m231]) (Array.mk [ty_sl_api_Stmt, ty_sl_api_Stmt]) [Value.slice oa facc.len oc, Value.slice (some (Addr.mk (AW.next h191) 0 none)) 1 1]) fun
      v232 h233 => vSl v232 fun p234 m235 m236 => unitAt P f_action_Parse_fn2 2 [0, 1, 2, 3, 4, 5, 8] [Value.int IntKind.i64 (deep : Int), Value.pointer (some (Addr.mk pb 0 none)),
      Value.pointer (some (Addr.mk pn 0 none)), Value.pointer (some (Addr.mk pa 0 none)), Value.pointer (some (Addr.mk pm 0 none)), Value.pointer (some (Addr.mk pf 0 none)), Value.slice p234
      m235 m236] h233 Q)))))) := by
      intro hne
      refine stmt_ok O (T.keep F2) V hcap (by omega) (hG _ (List.getElem_mem hlt)) fun h2 μ2 ρ3 ca aa ac O2 W2 hca => ?_
      simp only [oB_some, bC_true, bC_false, vInt_int, vBool_bool, vStr_string, vPtr_pointer, vSl_slice, vMap_map, vFun_func, vAgg_agg, vTup_tuple, vIfc_nil, vIfc_iface, lC_cons, lN_nil, aP_some, shO_none, shO_some, Option.isNone_none, Option.isNone_some, Bool.not_true, Bool.not_false]
      have W3 := W.adopt W2 hca
      have hca1 : ρ1 ca = none := W.not0 hca
      obtain ⟨μ3, ρ4, O3, W4⟩ := w_into O2 W3 hca1 1 rfl
      have fin : ∀ {h' : AW} {μ' : Paint} {ρ' : Store} {oa' : Option Addr} {oc' : Nat} {vs2 : List (Option Addr × Nat × Nat × List Value)} {bo : F} {ba : Option Addr} {bc : Nat} {bcells : List Value} (s2 : PS) (r2 : List Line), Own h' μ' ρ' →
          Pcs ρ1 ρ' (co :: cm :: ns) (.sl oa' oc' 4 (cells ++ [.int .i64 (stmtM (ps[s.i]).x).op, .slice aa (stmtM (ps[s.i]).x).args.length ac, .int .i64 (stmtM (ps[s.i]).x).n, .slice ba bo.len bc]) :: .many vs2 :: stR pf pn pb pm pa pl a ps.length cap s2) →
          r2 = (ps.map Wds.x).drop s2.i → s2.i ≤ ps.length → r2.length < n → s2.many ≤ s2.i → s.i + 1 ≤ s2.i → (∀ x, x ∈ ((aa, ac, 1, strs (stmtM (ps[s.i]).x).args) :: vs) → x ∈ vs2) → Vm vs2 ba bcells → Lies (Vm vs2) bo bcells →
          bd (n + 1) deep ((ps[s.i]).x :: r') s = (.cons (stmtM (ps[s.i]).x).op (stmtM (ps[s.i]).x).args (stmtM (ps[s.i]).x).n bo (bd n deep r2 s2).1, (bd n deep r2 s2).2.1, (bd n deep r2 s2).2.2) →
          unitAt P f_action_Parse_fn2 2 [0, 1, 2, 3, 4, 5, 8] [.int .i64 (deep : Int), ptr0 pb, ptr0 pn, ptr0 pa, ptr0 pm, ptr0 pf, .slice oa' (facc.len + 1) oc'] h' Q := by
        intro h' μ' ρ' oa' oc' vs2 bo ba bc bcells s2 r2 O' W' g1 g2 g3 g4 g5 g6 g7 g8 g9
        rw [g9] at hq
        simp only [← F.snoc_app] at hq
        have L2 : Lies (Vm vs2) (facc.snoc (stmtM (ps[s.i]).x).op (stmtM (ps[s.i]).x).args (stmtM (ps[s.i]).x).n bo) (cells ++ [.int .i64 (stmtM (ps[s.i]).x).op, .slice aa (stmtM (ps[s.i]).x).args.length ac, .int .i64 (stmtM (ps[s.i]).x).n, .slice ba bo.len bc]) :=
          (L.mono fun _ _ y => y.more fun z hz => g6 z (by simp [hz])).app ⟨aa, ac, ba, bc, bcells, [], rfl, .inr ⟨ac, 1, g6 _ (by simp)⟩, g7, g8, rfl⟩
        have := ih deep r2 s2 (facc := facc.snoc (stmtM (ps[s.i]).x).op (stmtM (ps[s.i]).x).args (stmtM (ps[s.i]).x).n bo) (Q := Q) O' W' hco Fr g1 g2 g3 g4 hd (by rw [F.snoc_len]; omega) L2
          (fun h3 μ3 ρ3 co3 oa3 oc3 cells3 vs3 a1 a2 a3 a4 a5 => hq h3 μ3 ρ3 co3 oa3 oc3 cells3 vs3 a1 a2 a3 a4 fun z hz => a5 z (g6 z (by simp [hz])))
        rw [F.snoc_len] at this
        exact this
      have hfl2 : facc.len ≤ 1000000 := by omega
      refine w_copy O3 W4 rfl rfl rfl fun h4 μ4 ρ5 cx O4 W5 hcx => ?_
      refine w_rd O4 W5 6 rfl rfl ?_
      simp only [oB_some, bC_true, bC_false, vInt_int, vBool_bool, vStr_string, vPtr_pointer, vSl_slice, vMap_map, vFun_func, vAgg_agg, vTup_tuple, vIfc_nil, vIfc_iface, lC_cons, lN_nil, aP_some, shO_none, shO_some, Option.isNone_none, Option.isNone_some, Bool.not_true, Bool.not_false]
      rw [wrapS (j := s.many) (by omega)]
      refine w_wr O4 W5 6 (j := 0) rfl (Nat.le_of_ble_eq_true rfl) rfl fun h5 ρ6 O5 W6 => ?_
      refine bC_iff (fun e1 => ?_) (fun e1 => ?_)
      · refine w_rd O5 W6 7 rfl rfl ?_
        simp only [oB_some, bC_true, bC_false, vInt_int, vBool_bool, vStr_string, vPtr_pointer, vSl_slice, vMap_map, vFun_func, vAgg_agg, vTup_tuple, vIfc_nil, vIfc_iface, lC_cons, lN_nil, aP_some, shO_none, shO_some, Option.isNone_none, Option.isNone_some, Bool.not_true, Bool.not_false]
        rw [back1 (by omega)]
        refine w_wrL O5 W6 5 (j := 0) rfl (Nat.le_of_ble_eq_true rfl) rfl fun h6 ρ7 O6 W7 => ?_
        refine app_x (facc := facc) O6 W7 hcx L.len hfl2 fun h7 μ7 ρ8 oa' oc' O7 W8 => ?_
        refine fin (bo := .nil) ⟨s.i + 1, s.many + 1, 130, s.i⟩ r' O7 W8 hr2 (by simp only; omega) (by omega) (by simp only; omega) (Nat.le_refl _) (fun _ x => x) (.inl ⟨rfl, rfl⟩) rfl ?_
        rw [bd_bad he hne (nb e1), bd_err (by simp)]
      have hx := nb' e1
      refine w_rd O5 W6 6 rfl rfl ?_
      simp only [oB_some, bC_true, bC_false, vInt_int, vBool_bool, vStr_string, vPtr_pointer, vSl_slice, vMap_map, vFun_func, vAgg_agg, vTup_tuple, vIfc_nil, vIfc_iface, lC_cons, lN_nil, aP_some, shO_none, shO_some, Option.isNone_none, Option.isNone_some, Bool.not_true, Bool.not_false]
      refine bC_iff (fun e2 => ?_) (fun e2 => ?_)
      · have e2 : s.many + 1 > 256 := by have := of_decide_eq_true e2; omega
        refine w_rd O5 W6 7 rfl rfl ?_
        simp only [oB_some, bC_true, bC_false, vInt_int, vBool_bool, vStr_string, vPtr_pointer, vSl_slice, vMap_map, vFun_func, vAgg_agg, vTup_tuple, vIfc_nil, vIfc_iface, lC_cons, lN_nil, aP_some, shO_none, shO_some, Option.isNone_none, Option.isNone_some, Bool.not_true, Bool.not_false]
        rw [back1 (by omega)]
        refine w_wrL O5 W6 5 (j := 0) rfl (Nat.le_of_ble_eq_true rfl) rfl fun h6 ρ7 O6 W7 => ?_
        refine app_x (facc := facc) O6 W7 hcx L.len hfl2 fun h7 μ7 ρ8 oa' oc' O7 W8 => ?_
        refine fin (bo := .nil) ⟨s.i + 1, s.many + 1, 3, s.i⟩ r' O7 W8 hr2 (by simp only; omega) (by omega) (by simp only; omega) (Nat.le_refl _) (fun _ x => x) (.inl ⟨rfl, rfl⟩) rfl ?_
        rw [bd_long he hne hx e2, bd_err (by simp)]
      have e2 : ¬ s.many + 1 > 256 := by have := of_decide_eq_false e2; omega
      refine w_rd O5 W6 0 (j := 0) rfl rfl ?_
      simp only [oB_some, bC_true, bC_false, vInt_int, vBool_bool, vStr_string, vPtr_pointer, vSl_slice, vMap_map, vFun_func, vAgg_agg, vTup_tuple, vIfc_nil, vIfc_iface, lC_cons, lN_nil, aP_some, shO_none, shO_some, Option.isNone_none, Option.isNone_some, Bool.not_true, Bool.not_false]
      refine opens_ok ?_
      simp only [oB_some, bC_true, bC_false, vInt_int, vBool_bool, vStr_string, vPtr_pointer, vSl_slice, vMap_map, vFun_func, vAgg_agg, vTup_tuple, vIfc_nil, vIfc_iface, lC_cons, lN_nil, aP_some, shO_none, shO_some, Option.isNone_none, Option.isNone_some, Bool.not_true, Bool.not_false]
      refine bC_iff (fun ho => ?_) (fun ho => ?_)
      · refine bC_iff (fun e3 => ?_) (fun e3 => ?_)
        · have e3 : deep = 8 := by have := eqI e3; omega
          subst e3
          refine w_rd O5 W6 7 rfl rfl ?_
          simp only [oB_some, bC_true, bC_false, vInt_int, vBool_bool, vStr_string, vPtr_pointer, vSl_slice, vMap_map, vFun_func, vAgg_agg, vTup_tuple, vIfc_nil, vIfc_iface, lC_cons, lN_nil, aP_some, shO_none, shO_some, Option.isNone_none, Option.isNone_some, Bool.not_true, Bool.not_false]
          rw [back1 (by omega)]
          refine w_wrL O5 W6 5 (j := 0) rfl (Nat.le_of_ble_eq_true rfl) rfl fun h6 ρ7 O6 W7 => ?_
          refine app_x (facc := facc) O6 W7 hcx L.len hfl2 fun h7 μ7 ρ8 oa' oc' O7 W8 => ?_
          refine fin (bo := .nil) ⟨s.i + 1, s.many + 1, 132, s.i⟩ r' O7 W8 hr2 (by simp only; omega) (by omega) (by simp only; omega) (Nat.le_refl _) (fun _ x => x) (.inl ⟨rfl, rfl⟩) rfl ?_
          rw [bd_deep he hne hx e2 ho, bd_err (by simp)]
        have e3 : deep ≠ 8 := by have := neI e3; omega
        refine w_rd O5 W6 0 (j := 0) rfl rfl ?_
        simp only [oB_some, bC_true, bC_false, vInt_int, vBool_bool, vStr_string, vPtr_pointer, vSl_slice, vMap_map, vFun_func, vAgg_agg, vTup_tuple, vIfc_nil, vIfc_iface, lC_cons, lN_nil, aP_some, shO_none, shO_some, Option.isNone_none, Option.isNone_some, Bool.not_true, Bool.not_false]
        refine opens_ok ?_
        rw [ho]
        simp only [oB_some, bC_true, bC_false, vInt_int, vBool_bool, vStr_string, vPtr_pointer, vSl_slice, vMap_map, vFun_func, vAgg_agg, vTup_tuple, vIfc_nil, vIfc_iface, lC_cons, lN_nil, aP_some, shO_none, shO_some, Option.isNone_none, Option.isNone_some, Bool.not_true, Bool.not_false]
        refine w_rd O5 W6 3 (j := 0) rfl rfl ?_
        simp only [oB_some, bC_true, bC_false, vInt_int, vBool_bool, vStr_string, vPtr_pointer, vSl_slice, vMap_map, vFun_func, vAgg_agg, vTup_tuple, vIfc_nil, vIfc_iface, lC_cons, lN_nil, aP_some, shO_none, shO_some, Option.isNone_none, Option.isNone_some, Bool.not_true, Bool.not_false]
        rw [wrapS (j := deep) (by omega)]
        refine r_action_Parse_fn2 ?_
        obtain ⟨ρ7, cb, O6, W7, hcb⟩ := w_nil O5 W6.self.tail'.tail' 4
        have F6 : Fra [] ρ ρ6 := Fr.via W6.fra fun c hc => by
          rcases List.mem_cons.1 hc with rfl | hc
          · exact Fr.none0 hcx
          · exact hnm c hc
        obtain ⟨i1, i2, i3, i4, i5⟩ := bd_inv (ps.map Wds.x) n (deep + 1) r' ⟨s.i + 1, s.many + 1, 0, s.bad⟩ hr2 (by simp only [List.length_map]; omega)
        have i6 := bd_len n (deep + 1) r' ⟨s.i + 1, s.many + 1, 0, s.bad⟩
        have hbd := bd_open (n := n) (r := r') he hne hx e2 ho e3
        refine ih (deep + 1) r' ⟨s.i + 1, s.many + 1, 0, s.bad⟩ (facc := .nil) O6 W7 hcb F6 hr2 (by simp only; omega) (by omega) (by simp only; omega) (by omega) (Nat.zero_le _) rfl fun h7 μ7 ρ8 cb' ba bc bcells vs2 O7 W8 hcb' L8 hmore => ?_
        generalize bd n (deep + 1) r' ⟨s.i + 1, s.many + 1, 0, s.bad⟩ = q at i1 i2 i3 i4 i5 i6 hbd W8 L8 ⊢
        have L8 : Lies (Vm vs2) q.1 bcells := L8
        simp only [oB_some, bC_true, bC_false, vInt_int, vBool_bool, vStr_string, vPtr_pointer, vSl_slice, vMap_map, vFun_func, vAgg_agg, vTup_tuple, vIfc_nil, vIfc_iface, lC_cons, lN_nil, aP_some, shO_none, shO_some, Option.isNone_none, Option.isNone_some, Bool.not_true, Bool.not_false]
        have W9 := W6.call1 (fs := [cx, co]) (ms := cm :: ns) (xs := [_, _]) rfl W8 hcb'
        have hcb1 : ρ1 cb' = none := W6.not0 hcb'
        refine w_wr O7 W9 1 (j := 3) rfl (Nat.le_of_ble_eq_true rfl) rfl fun h8 ρ9 O8 W10 => ?_
        obtain ⟨μ9, ρ10, O9, W11⟩ := w_into O8 W10 hcb1 2 rfl
        refine app_x (facc := facc) O9 W11 hcx L.len hfl2 fun h9 μ10 ρ11 oa' oc' O10 W12 => ?_
        refine fin (bo := q.1) q.2.2 q.2.1 O10 W12 i1 (by simpa using i2) (by omega) (by simp only at i3 i4; omega) (by simp only at i3; omega) (fun x hx => List.mem_cons_of_mem _ (hmore x hx)) (.inr ⟨bc, 4, List.mem_cons_self⟩) (L8.mono fun _ _ y => y.more fun z hz => List.mem_cons_of_mem _ hz) hbd
      · refine w_rd O5 W6 0 (j := 0) rfl rfl ?_
        simp only [oB_some, bC_true, bC_false, vInt_int, vBool_bool, vStr_string, vPtr_pointer, vSl_slice, vMap_map, vFun_func, vAgg_agg, vTup_tuple, vIfc_nil, vIfc_iface, lC_cons, lN_nil, aP_some, shO_none, shO_some, Option.isNone_none, Option.isNone_some, Bool.not_true, Bool.not_false]
        refine opens_ok ?_
        rw [ho]
        simp only [oB_some, bC_true, bC_false, vInt_int, vBool_bool, vStr_string, vPtr_pointer, vSl_slice, vMap_map, vFun_func, vAgg_agg, vTup_tuple, vIfc_nil, vIfc_iface, lC_cons, lN_nil, aP_some, shO_none, shO_some, Option.isNone_none, Option.isNone_some, Bool.not_true, Bool.not_false]
        refine app_x (facc := facc) O5 W6 hcx L.len hfl2 fun h7 μ7 ρ8 oa' oc' O7 W8 => ?_
        refine fin (bo := .nil) ⟨s.i + 1, s.many + 1, 0, s.bad⟩ r' O7 W8 hr2 (by simp only; omega) (by omega) (by simp only; omega) (Nat.le_refl _) (fun _ x => x) (.inl ⟨rfl, rfl⟩) rfl ?_
        exact bd_plain he hne hx e2 ho
    refine bC_iff (fun e1 => ?_) (fun e1 => tail fun x => by rw [x] at e1; simp at e1)
    refine wd_at (j := 0) O V rfl rfl (by have := eqI e1; omega) ?_
    refine bC_iff (fun e2 => ?_) (fun e2 => tail fun x => by simp [x] at e2)
    have hend : (ps[s.i]).x = [wEnd] := by
      have h1 : (ps[s.i]).x.length = 1 := by have := eqI e1; omega
      obtain ⟨y, hy⟩ := List.length_eq_one_iff.1 h1
      have h2 := bEq_iff.1 e2
      simp only [hy, List.getElem_cons_zero] at h2
      rw [hy, h2]
    rw [hend, bd_end he] at hq
    refine bC_iff (fun e3 => ?_) (fun e3 => ?_)
    · have e3 : deep = 0 := by have := eqI e3; omega
      rw [if_pos e3, F.app_nil] at hq
      refine w_rd O W 6 rfl rfl ?_
      simp only [oB_some, bC_true, bC_false, vInt_int, vBool_bool, vStr_string, vPtr_pointer, vSl_slice, vMap_map, vFun_func, vAgg_agg, vTup_tuple, vIfc_nil, vIfc_iface, lC_cons, lN_nil, aP_some, shO_none, shO_some, Option.isNone_none, Option.isNone_some, Bool.not_true, Bool.not_false]
      rw [back1 (by omega)]
      repeat (first | refine ⟨rfl, ?_⟩ | refine ⟨trivial, ?_⟩ | simp only [oB_some, bC_true, bC_false, vInt_int, vBool_bool, vStr_string, vPtr_pointer, vSl_slice, vMap_map, vFun_func, vAgg_agg, vTup_tuple, vIfc_nil, vIfc_iface, lC_cons, lN_nil, aP_some, shO_none, shO_some, Option.isNone_none, Option.isNone_some, Bool.not_true, Bool.not_false] | refine w_rd (by assumption) (by assumption) 0 (by rfl) (by rfl) ?_ | refine w_rd (by assumption) (by assumption) 1 (by rfl) (by rfl) ?_ | refine w_rd (by assumption) (by assumption) 2 (by rfl) (by rfl) ?_ | refine w_rd (by assumption) (by assumption) 3 (by rfl) (by rfl) ?_ | refine w_rd (by assumption) (by assumption) 4 (by rfl) (by rfl) ?_ | refine w_rd (by assumption) (by assumption) 5 (by rfl) (by rfl) ?_ | refine w_rd (by assumption) (by assumption) 6 (by rfl) (by rfl) ?_ | refine w_rd (by assumption) (by assumption) 7 (by rfl) (by rfl) ?_ | refine w_wrL (by assumption) (by assumption) 0 (by rfl) (Nat.le_of_ble_eq_true (by rfl)) (by rfl) fun h ρz O W => ?_ | refine w_wrL (by assumption) (by assumption) 1 (by rfl) (Nat.le_of_ble_eq_true (by rfl)) (by rfl) fun h ρz O W => ?_ | refine w_wrL (by assumption) (by assumption) 2 (by rfl) (Nat.le_of_ble_eq_true (by rfl)) (by rfl) fun h ρz O W => ?_ | refine w_wrL (by assumption) (by assumption) 3 (by rfl) (Nat.le_of_ble_eq_true (by rfl)) (by rfl) fun h ρz O W => ?_ | refine w_wrL (by assumption) (by assumption) 4 (by rfl) (Nat.le_of_ble_eq_true (by rfl)) (by rfl) fun h ρz O W => ?_ | refine w_wrL (by assumption) (by assumption) 5 (by rfl) (Nat.le_of_ble_eq_true (by rfl)) (by rfl) fun h ρz O W => ?_ | refine w_wrL (by assumption) (by assumption) 6 (by rfl) (Nat.le_of_ble_eq_true (by rfl)) (by rfl) fun h ρz O W => ?_ | refine w_wrL (by assumption) (by assumption) 7 (by rfl) (Nat.le_of_ble_eq_true (by rfl)) (by rfl) fun h ρz O W => ?_ | refine w_wr (by assumption) (by assumption) 0 (by rfl) (Nat.le_of_ble_eq_true (by rfl)) (by rfl) fun h ρz O W => ?_ | refine w_wr (by assumption) (by assumption) 1 (by rfl) (Nat.le_of_ble_eq_true (by rfl)) (by rfl) fun h ρz O W => ?_ | refine w_wr (by assumption) (by assumption) 2 (by rfl) (Nat.le_of_ble_eq_true (by rfl)) (by rfl) fun h ρz O W => ?_ | refine w_wr (by assumption) (by assumption) 3 (by rfl) (Nat.le_of_ble_eq_true (by rfl)) (by rfl) fun h ρz O W => ?_ | refine w_wr (by assumption) (by assumption) 4 (by rfl) (Nat.le_of_ble_eq_true (by rfl)) (by rfl) fun h ρz O W => ?_ | refine w_wr (by assumption) (by assumption) 5 (by rfl) (Nat.le_of_ble_eq_true (by rfl)) (by rfl) fun h ρz O W => ?_ | refine w_wr (by assumption) (by assumption) 6 (by rfl) (Nat.le_of_ble_eq_true (by rfl)) (by rfl) fun h ρz O W => ?_ | refine w_wr (by assumption) (by assumption) 7 (by rfl) (Nat.le_of_ble_eq_true (by rfl)) (by rfl) fun h ρz O W => ?_)
      exact hq _ _ _ _ _ _ _ _ (by assumption) (by assumption) hco L (fun _ x => x)
    · have e3 : ¬ deep = 0 := by have := neI e3; omega
      rw [if_neg e3, F.app_nil] at hq
      simp only [he] at hq
      exact hq _ _ _ _ _ _ _ _ O W hco L (fun _ x => x)
end Go.Proofs.YtgdkekdedgkglaaDoor
end

section
/- The document's reading of a line. -/
namespace Go.Proofs.YtgdkekdedgkglaaDoor
open Go.Abs Go.Abs.Fo
set_option maxRecDepth 100000
attribute [local irreducible] unitAt EvQ
variable {h : AW} {μ : Paint} {ρ : Store} {Q : Value → AW → Prop}

end Go.Proofs.YtgdkekdedgkglaaDoor
end

section
/- The document's statements up to an end. -/
namespace Go.Proofs.YtgdkekdedgkglaaDoor
open Go.Abs Go.Abs.Fo
set_option maxRecDepth 100000
attribute [local irreducible] unitAt EvQ
variable {h : AW} {μ : Paint} {ρ : Store} {Q : Value → AW → Prop}

end Go.Proofs.YtgdkekdedgkglaaDoor
end

section
/- Lines of words as statements: made, and as said. -/
namespace Go.Proofs.YtgdkekdedgkglaaDoor
open Go.Abs Go.Abs.Fo
set_option maxRecDepth 100000
attribute [local irreducible] unitAt EvQ
variable {h : AW} {μ : Paint} {ρ : Store} {Q : Value → AW → Prop}

/-- What a reading of lines comes to. -/
def NewP (Q : Value → AW → Prop) (ρ : Store) (p : F × Int × Int) : Prop :=
  ∀ h' μ' ρ' co cm oa oc cells vs, Own h' μ' ρ' → Pcs ρ ρ' [co, cm] [.sl oa oc 4 cells, .many vs] → ρ co = none → ρ cm = none → Lies (Vm vs) p.1 cells →
    Q (.tuple ⟨[.slice oa p.1.len oc, .agg ⟨[.int .i64 p.2.1, .int .i64 p.2.2]⟩]⟩) h'
theorem NewP.nil {p : F × Int × Int} (hq : NewP Q ρ p) (e : p.1 = .nil) {h' : AW} {μ' : Paint} {ρ' : Store} (O : Own h' μ' ρ') (F : Fra [] ρ ρ') : Q (.tuple ⟨[.slice Option.none 0 0, .agg ⟨[.int .i64 p.2.1, .int .i64 p.2.2]⟩]⟩) h' := by
  obtain ⟨ρ1, c1, O1, W1, hc1⟩ := w_many O (Pcs.none F)
  obtain ⟨ρ2, c2, O2, W2, hc2⟩ := w_nil O1 W1 4
  have := hq h' μ' ρ2 c2 c1 Option.none 0 [] [] O2 W2 hc2 hc1 (by rw [e]; rfl)
  rw [e] at this
  exact this
theorem parse_ok {G : Str → Prop} (O : Own h μ ρ) (T : Tbs G ρ) {ps : List Wds} {a : Option Addr} {cap : Nat} (X : Lns ρ ps a) (M : Mild (ps.map Wds.x)) (hG : ∀ p, p ∈ ps → ∀ w s, p.x = [w, s] → opOf w = 10 → G s) (hq : NewP Q ρ (parseM (ps.map Wds.x))) : EvQ P f_action_Parse [.slice a ps.length cap] h Q := by
  refine r_action_Parse ?_
  obtain ⟨μ1, ρ1, c1, O1, W1, hc1⟩ := w_new O p00 [.slice a ps.length cap]
  obtain ⟨μ2, ρ2, c2, O2, W2, hc2⟩ := w_new O1 W1 [.int .i64 0, .int .i64 0]
  obtain ⟨μ3, ρ3, c3, O3, W3, hc3⟩ := w_new O2 W2 [.int .i64 0]
  have W3 := W3.swap2
  obtain ⟨μ4, ρ4, c4, O4, W4, hc4⟩ := w_new O3 W3 [.int .i64 0]
  have W4 := W4.swap2
  refine w_wr O4 W4 2 (j := 0) rfl (Nat.le_of_ble_eq_true rfl) rfl fun h5 ρ5 O5 W5 => ?_
  refine w_wr O5 W5 1 (j := 0) rfl (Nat.le_of_ble_eq_true rfl) rfl fun h6 ρ6 O6 W6 => ?_
  obtain ⟨μ7, ρ7, c7, O7, W7, hc7⟩ := w_new O6 W6 [.int .i64 0, .int .i64 0]
  have W7 := W7.swap2
  obtain ⟨μ8, ρ8, c8, O8, W8, hc8⟩ := w_new O7 W7 [.nilFunc]
  have W8 := W8.swap2
  refine w_wr O8 W8 1 (j := 0) rfl (Nat.le_of_ble_eq_true rfl) rfl fun h9 ρ9 O9 W9 => ?_
  obtain ⟨μ10, ρ10, c10, O10, W10, hc10⟩ := w_new O9 W9 [.nilFunc]
  have W10 := W10.swap2
  refine w_wr O10 W10 1 (j := 0) rfl (Nat.le_of_ble_eq_true rfl) rfl fun h11 ρ11 O11 W11 => ?_
  refine w_rd O11 W11 1 (j := 0) rfl rfl ?_
  simp only [oB_some, bC_true, bC_false, vInt_int, vBool_bool, vStr_string, vPtr_pointer, vSl_slice, vMap_map, vFun_func, vAgg_agg, vTup_tuple, vIfc_nil, vIfc_iface, lC_cons, lN_nil, aP_some, shO_none, shO_some, Option.isNone_none, Option.isNone_some, Bool.not_true, Bool.not_false]
  obtain ⟨ρ12, cm, O12, W12, hcm⟩ := w_many O11 W11
  have W12 := W12.swap2
  refine r_action_Parse_fn2 ?_
  obtain ⟨ρ13, co, O13, W13, hco⟩ := w_nil O12 W12.self.tail' 4
  have fr : ∀ c, c ∈ [c2, cm, c10, c8, c7, c4, c3, c1] → ρ c = none := fun c hc => by
    simp only [List.mem_cons, List.not_mem_nil, or_false] at hc
    rcases hc with rfl | rfl | rfl | rfl | rfl | rfl | rfl | rfl <;> assumption
  have F12 : Fra [] ρ ρ12 := W12.fra0 fr
  refine body_loop (cm := cm) (ns := [c10, c8, c7, c4, c3, c1]) T X M hG (fun c hc => fr c (List.mem_cons_of_mem _ hc)) ((ps.map Wds.x).length + 1) 0 (ps.map Wds.x) ps0 (facc := .nil) O13 W13 hco F12 rfl (by simp [ps0]) (by omega) (Nat.le_refl _) (by omega) (Nat.zero_le _) rfl
    fun h14 μ14 ρ14 co' oa oc cells vs O14 W14 hco' L14 _ => ?_
  have W15 := W12.call1 (fs := [c2]) (ms := [cm, c10, c8, c7, c4, c3, c1]) (xs := [_]) rfl W14 hco'
  have hco1 : ρ co' = none := F12.none0 hco'
  have L14 : Lies (Vm vs) (bd ((ps.map Wds.x).length + 1) 0 (ps.map Wds.x) ps0).1 cells := L14
  have hp : parseM (ps.map Wds.x) = (if (bd ((ps.map Wds.x).length + 1) 0 (ps.map Wds.x) ps0).2.2.err ≠ 0 then (.nil, (bd ((ps.map Wds.x).length + 1) 0 (ps.map Wds.x) ps0).2.2.err, (bd ((ps.map Wds.x).length + 1) 0 (ps.map Wds.x) ps0).2.2.bad) else ((bd ((ps.map Wds.x).length + 1) 0 (ps.map Wds.x) ps0).1, 0, 0)) := rfl
  rw [hp] at hq
  generalize bd ((ps.map Wds.x).length + 1) 0 (ps.map Wds.x) ps0 = q at W15 L14 hq ⊢
  simp only [oB_some, bC_true, bC_false, vInt_int, vBool_bool, vStr_string, vPtr_pointer, vSl_slice, vMap_map, vFun_func, vAgg_agg, vTup_tuple, vIfc_nil, vIfc_iface, lC_cons, lN_nil, aP_some, shO_none, shO_some, Option.isNone_none, Option.isNone_some, Bool.not_true, Bool.not_false]
  refine w_rd O14 W15 5 (j := 0) rfl rfl ?_
  simp only [oB_some, bC_true, bC_false, vInt_int, vBool_bool, vStr_string, vPtr_pointer, vSl_slice, vMap_map, vFun_func, vAgg_agg, vTup_tuple, vIfc_nil, vIfc_iface, lC_cons, lN_nil, aP_some, shO_none, shO_some, Option.isNone_none, Option.isNone_some, Bool.not_true, Bool.not_false]
  have fr2 : ∀ c, c ∈ [co', c2, cm, c10, c8, c7, c4, c3, c1] → ρ c = none := fun c hc => by
    rcases List.mem_cons.1 hc with rfl | hc
    · exact hco1
    · exact fr c hc
  refine bC_iff (fun e => ?_) (fun e => ?_)
  · have e : q.2.2.err ≠ 0 := by simpa using e
    rw [if_pos e] at hq
    repeat (first | refine ⟨rfl, ?_⟩ | refine ⟨trivial, ?_⟩ | simp only [oB_some, bC_true, bC_false, vInt_int, vBool_bool, vStr_string, vPtr_pointer, vSl_slice, vMap_map, vFun_func, vAgg_agg, vTup_tuple, vIfc_nil, vIfc_iface, lC_cons, lN_nil, aP_some, shO_none, shO_some, Option.isNone_none, Option.isNone_some, Bool.not_true, Bool.not_false] | refine w_rd (by assumption) (by assumption) 0 (by rfl) (by rfl) ?_ | refine w_rd (by assumption) (by assumption) 1 (by rfl) (by rfl) ?_ | refine w_rd (by assumption) (by assumption) 2 (by rfl) (by rfl) ?_ | refine w_rd (by assumption) (by assumption) 3 (by rfl) (by rfl) ?_ | refine w_rd (by assumption) (by assumption) 4 (by rfl) (by rfl) ?_ | refine w_rd (by assumption) (by assumption) 5 (by rfl) (by rfl) ?_ | refine w_rd (by assumption) (by assumption) 6 (by rfl) (by rfl) ?_ | refine w_rd (by assumption) (by assumption) 7 (by rfl) (by rfl) ?_ | refine w_rd (by assumption) (by assumption) 8 (by rfl) (by rfl) ?_ | refine w_wrL (by assumption) (by assumption) 0 (by rfl) (Nat.le_of_ble_eq_true (by rfl)) (by rfl) fun h ρz O W => ?_ | refine w_wrL (by assumption) (by assumption) 1 (by rfl) (Nat.le_of_ble_eq_true (by rfl)) (by rfl) fun h ρz O W => ?_ | refine w_wrL (by assumption) (by assumption) 2 (by rfl) (Nat.le_of_ble_eq_true (by rfl)) (by rfl) fun h ρz O W => ?_ | refine w_wrL (by assumption) (by assumption) 3 (by rfl) (Nat.le_of_ble_eq_true (by rfl)) (by rfl) fun h ρz O W => ?_ | refine w_wrL (by assumption) (by assumption) 4 (by rfl) (Nat.le_of_ble_eq_true (by rfl)) (by rfl) fun h ρz O W => ?_ | refine w_wrL (by assumption) (by assumption) 5 (by rfl) (Nat.le_of_ble_eq_true (by rfl)) (by rfl) fun h ρz O W => ?_ | refine w_wrL (by assumption) (by assumption) 6 (by rfl) (Nat.le_of_ble_eq_true (by rfl)) (by rfl) fun h ρz O W => ?_ | refine w_wrL (by assumption) (by assumption) 7 (by rfl) (Nat.le_of_ble_eq_true (by rfl)) (by rfl) fun h ρz O W => ?_ | refine w_wrL (by assumption) (by assumption) 8 (by rfl) (Nat.le_of_ble_eq_true (by rfl)) (by rfl) fun h ρz O W => ?_ | refine w_wr (by assumption) (by assumption) 0 (by rfl) (Nat.le_of_ble_eq_true (by rfl)) (by rfl) fun h ρz O W => ?_ | refine w_wr (by assumption) (by assumption) 1 (by rfl) (Nat.le_of_ble_eq_true (by rfl)) (by rfl) fun h ρz O W => ?_ | refine w_wr (by assumption) (by assumption) 2 (by rfl) (Nat.le_of_ble_eq_true (by rfl)) (by rfl) fun h ρz O W => ?_ | refine w_wr (by assumption) (by assumption) 3 (by rfl) (Nat.le_of_ble_eq_true (by rfl)) (by rfl) fun h ρz O W => ?_ | refine w_wr (by assumption) (by assumption) 4 (by rfl) (Nat.le_of_ble_eq_true (by rfl)) (by rfl) fun h ρz O W => ?_ | refine w_wr (by assumption) (by assumption) 5 (by rfl) (Nat.le_of_ble_eq_true (by rfl)) (by rfl) fun h ρz O W => ?_ | refine w_wr (by assumption) (by assumption) 6 (by rfl) (Nat.le_of_ble_eq_true (by rfl)) (by rfl) fun h ρz O W => ?_ | refine w_wr (by assumption) (by assumption) 7 (by rfl) (Nat.le_of_ble_eq_true (by rfl)) (by rfl) fun h ρz O W => ?_ | refine w_wr (by assumption) (by assumption) 8 (by rfl) (Nat.le_of_ble_eq_true (by rfl)) (by rfl) fun h ρz O W => ?_)
    exact hq.nil rfl (by assumption) (Pcs.fra0 (by assumption) fr2)
  · have e : q.2.2.err = 0 := by simpa using e
    rw [if_neg (fun h => h e)] at hq
    refine w_wrL O14 W15 1 (j := 0) rfl (Nat.le_of_ble_eq_true rfl) rfl fun h16 ρ16 O16 W16 => ?_
    repeat (first | refine ⟨rfl, ?_⟩ | refine ⟨trivial, ?_⟩ | simp only [oB_some, bC_true, bC_false, vInt_int, vBool_bool, vStr_string, vPtr_pointer, vSl_slice, vMap_map, vFun_func, vAgg_agg, vTup_tuple, vIfc_nil, vIfc_iface, lC_cons, lN_nil, aP_some, shO_none, shO_some, Option.isNone_none, Option.isNone_some, Bool.not_true, Bool.not_false] | refine w_rd (by assumption) (by assumption) 0 (by rfl) (by rfl) ?_ | refine w_rd (by assumption) (by assumption) 1 (by rfl) (by rfl) ?_ | refine w_wrL (by assumption) (by assumption) 0 (by rfl) (Nat.le_of_ble_eq_true (by rfl)) (by rfl) fun h ρz O W => ?_ | refine w_wrL (by assumption) (by assumption) 1 (by rfl) (Nat.le_of_ble_eq_true (by rfl)) (by rfl) fun h ρz O W => ?_ | refine w_wr (by assumption) (by assumption) 0 (by rfl) (Nat.le_of_ble_eq_true (by rfl)) (by rfl) fun h ρz O W => ?_ | refine w_wr (by assumption) (by assumption) 1 (by rfl) (Nat.le_of_ble_eq_true (by rfl)) (by rfl) fun h ρz O W => ?_)
    have hne : co' ≠ cm := by
      have := W16.nodup
      simp at this
      exact this.1.2.1
    exact hq _ _ _ co' cm oa oc cells vs O16 (Pcs.mk2 (W16.at_ 0 _ _ rfl rfl) (W16.at_ 2 _ _ rfl rfl) hne (W16.fra0 fr2)) hco1 hcm L14
end Go.Proofs.YtgdkekdedgkglaaDoor
end

section
/- Lines of words built piece by piece. -/
namespace Go.Proofs.YtgdkekdedgkglaaDoor
open Go.Abs Go.Abs.Fo
set_option maxRecDepth 100000
attribute [local irreducible] unitAt EvQ
variable {h : AW} {μ : Paint} {ρ : Store} {Q : Value → AW → Prop}
/-- Lines whose words lie among many. -/
def Built (vs : List (Option Addr × Nat × Nat × List Value)) (ps : List Wds) : Prop := ∀ p, p ∈ ps → Vm vs p.a (strs p.x) ∧ p.x.length ≤ p.cap
theorem Built.lns {vs : List (Option Addr × Nat × Nat × List Value)} {ps : List Wds} (B : Built vs ps) (O : Own h μ ρ) {co cm : Nat} {oa : Option Addr} {oc : Nat} (h1 : ρ co = some (.sl oa oc 1 (ps.map Wds.cell))) (h2 : ρ cm = some (.many vs)) : Lns ρ ps oa :=
  ⟨.inr (Rd.of_sl O (by simp) h1), fun p hp => (B p hp).1.read O h2, fun p hp => (B p hp).2⟩
theorem Built.nil {vs : List (Option Addr × Nat × Nat × List Value)} : Built vs [] := fun p hp => by simp at hp
theorem Built.more {vs ws : List (Option Addr × Nat × Nat × List Value)} {ps : List Wds} (B : Built vs ps) (hs : ∀ x, x ∈ vs → x ∈ ws) : Built ws ps := fun p hp => ⟨(B p hp).1.more hs, (B p hp).2⟩
theorem Built.app {vs : List (Option Addr × Nat × Nat × List Value)} {ps qs : List Wds} (B : Built vs ps) (C : Built vs qs) : Built vs (ps ++ qs) := fun p hp => by
  rcases List.mem_append.1 hp with x | x
  · exact B p x
  · exact C p x
theorem Built.snoc {vs : List (Option Addr × Nat × Nat × List Value)} {ps : List Wds} (B : Built vs ps) {p : Wds} (hc : p.x.length ≤ p.cap) : Built ((p.a, p.cap, 1, strs p.x) :: vs) (ps ++ [p]) :=
  (B.more fun x hx => List.mem_cons_of_mem _ hx).app fun q hq => by
    simp at hq; subst hq
    exact ⟨.inr ⟨_, _, List.mem_cons_self⟩, hc⟩
theorem allOne_cells (ps : List Wds) : allOne (ps.map Wds.cell) = true := allOne_of fun v hv => by
  obtain ⟨p, _, rfl⟩ := List.mem_map.1 hv
  rfl
/-- A line joins the others. -/
theorem app_line (O : Own h μ ρ) {ρ1 : Store} {ns : List Nat} {rs : List Res} (W : Pcs ρ1 ρ ns rs) (i j : Nat) (hij : j ≠ i) {oa : Option Addr} {oc : Nat} {ps : List Wds} {vs : List (Option Addr × Nat × Nat × List Value)} (hi : rs[i]? = some (.sl oa oc 1 (ps.map Wds.cell))) (hj : rs[j]? = some (.many vs))
    (x : List Str) (hps : ps.length ≤ 1000000) {K : Value → AW → Prop}
    (H : ∀ h' μ' ρ' oa' oc' (p : Wds), p.x = x → p.cap = x.length → Own h' μ' ρ' → Pcs ρ1 ρ' ns ((rs.set j (.many ((p.a, p.cap, 1, strs p.x) :: vs))).set i (.sl oa' oc' 1 ((ps ++ [p]).map Wds.cell))) → K (.slice oa' (ps.length + 1) oc') h') :
    oP (appendB P (AW.addVar (AW.addVar h (strs x)) [.slice (some ⟨AW.next h, 0, none⟩) x.length x.length]) ⟨[ty_sl_sl_string, ty_sl_sl_string]⟩ [.slice oa ps.length oc, .slice (some ⟨AW.next (AW.addVar h (strs x)), 0, none⟩) 1 1]) K := by
  obtain ⟨μ1, ρ2, c1, O1, W1, hc1⟩ := w_block O W (strs x) (n := x.length) (sz := 1) (by simp) allOne_strs
  obtain ⟨μ2, ρ3, O2, W2⟩ := w_into O1 W1 hc1 j hj
  obtain ⟨μ3, ρ4, c2, O3, W3, hc2⟩ := w_block O2 W2 [.slice (some ⟨AW.next h, 0, none⟩) x.length x.length] (n := 1) (sz := 1) rfl rfl
  refine w_app (P := P) O3 W3 (i + 1) (n := ps.length) (m := 1) ti_ty_sl_sl_string ti_ty_sl_string (by decide) (by rw [List.getElem?_cons_succ, List.getElem?_set_ne hij]; exact hi) (by simp) (w_sl O3 W3 0 rfl) rfl rfl (by omega) (by omega) fun oa' oc' h2 μ4 ρ5 O4 W4 => ?_
  refine H _ _ _ oa' oc' ⟨some ⟨AW.next h, 0, none⟩, x.length, x⟩ rfl rfl O4 ?_
  have := W4.tail hc2
  rw [List.map_append]
  exact this
end Go.Proofs.YtgdkekdedgkglaaDoor
end

section
/- Rules of walks, printed by a program of ours: group AStr. -/
namespace Go.Proofs.YtgdkekdedgkglaaDoor
open Go.Abs
set_option maxRecDepth 100000
attribute [local irreducible] kFn kUnit EvQ unitAt
theorem r_strconv_Itoa {n1 : Int} {h : AW} {Q : Value → AW → Prop} (H : EvQ P f_strconv_Itoa_85 [Value.int IntKind.i64 n1] h fun v2 h3 => vStr v2 fun s4 => Q (Value.string s4) h3) : EvQ P f_strconv_Itoa
  [Value.int IntKind.i64 n1] h Q := fn_ok (n := 400) (ann := annOf []) (Eq.mp (by kernel_rfl) H)
theorem r_p_strings_Builder_WriteByte {p1 : Option Addr} {n2 : Int} {h : AW} {Q : Value → AW → Prop} (H : EvQ P f_p_strings_Builder_copyCheck [Value.pointer p1] h fun v3 h4 => aP p1 fun m5 m6 => oB (AW.rd h4 m5 (m6 + 1)) fun v7
  => vSl v7 fun p8 m9 m10 => oP (appendB P (AW.addVar h4 [Value.int IntKind.u8 n2]) (Array.mk [ty_sl_uint8, ty_sl_uint8]) [Value.slice p8 m9 m10, Value.slice (some (Addr.mk (AW.next h4) 0
  none)) 1 1]) fun v11 h12 => vSl v11 fun p13 m14 m15 => aP p1 fun m16 m17 => oB (AW.wr h12 m16 (m17 + 1) (Value.slice p13 m14 m15)) fun h18 => Q Value.nilIface h18) : EvQ P f_p_strings_Builder_WriteByte
  [Value.pointer p1, Value.int IntKind.u8 n2] h Q := fn_ok (n := 400) (ann := annOf []) (Eq.mp (by kernel_rfl) H)
theorem r_p_strings_Builder_WriteString {p1 : Option Addr} {s2 : ByteArray} {h : AW} {Q : Value → AW → Prop} (H : EvQ P f_p_strings_Builder_copyCheck [Value.pointer p1] h fun v3 h4 => aP p1 fun m5 m6 => oB (AW.rd h4 m5 (m6 + 1))
  fun v7 => vSl v7 fun p8 m9 m10 => oP (appendB P h4 (Array.mk [ty_sl_uint8, ty_string]) [Value.slice p8 m9 m10, Value.string s2]) fun v11 h12 => vSl v11 fun p13 m14 m15 => aP p1 fun m16 m17
  => oB (AW.wr h12 m16 (m17 + 1) (Value.slice p13 m14 m15)) fun h18 => Q (Value.tuple (Array.mk [Value.int IntKind.i64 (↑(ByteArray.size s2) : Int), Value.nilIface])) h18) : EvQ P
  f_p_strings_Builder_WriteString [Value.pointer p1, Value.string s2] h Q := fn_ok (n := 400) (ann := annOf []) (Eq.mp (by kernel_rfl) H)
theorem r_strconv_Itoa_85 {n1 : Int} {h : AW} {Q : Value → AW → Prop} (H : EvQ P f_strconv_FormatInt [Value.int IntKind.i64 n1, Value.int IntKind.i64 10] h fun v2 h3 => vStr v2 fun s4 => Q (Value.string
  s4) h3) : EvQ P f_strconv_Itoa_85 [Value.int IntKind.i64 n1] h Q := fn_ok (n := 400) (ann := annOf []) (Eq.mp (by kernel_rfl) H)
theorem r_strconv_FormatInt {n1 : Int} {n2 : Int} {h : AW} {Q : Value → AW → Prop} (H : bC (n2 == 10) (bC (decide (0 ≤ n1)) (bC (decide (n1 < 100)) (EvQ P f_strconv_small [Value.int IntKind.i64 n1] h
  fun v3 h4 => vStr v3 fun s5 => Q (Value.string s5) h4) (bC (decide (n1 < 0)) (unitAt P f_strconv_FormatInt 8 [0, 5, 6] [Value.int IntKind.i64 n1, Value.pointer (some (Addr.mk (AW.next h) 0
  none)), Value.int IntKind.u64 (IntKind.wrap IntKind.u64 (0 - IntKind.wrap IntKind.u64 n1))] (AW.addVar h [Value.int IntKind.u8 0, Value.int IntKind.u8 0, Value.int IntKind.u8 0,
  Value.int IntKind.u8 0, Value.int IntKind.u8 0, Value.int IntKind.u8 0, Value.int IntKind.u8 0, Value.int IntKind.u8 0, Value.int IntKind.u8 0, Value.int IntKind.u8 0, Value.int
  IntKind.u8 0, Value.int IntKind.u8 0, Value.int IntKind.u8 0, Value.int IntKind.u8 0, Value.int IntKind.u8 0, Value.int IntKind.u8 0, Value.int IntKind.u8 0, Value.int IntKind.u8
  0, Value.int IntKind.u8 0, Value.int IntKind.u8 0, Value.int IntKind.u8 0, Value.int IntKind.u8 0, Value.int IntKind.u8 0, Value.int IntKind.u8 0]) Q) (unitAt P f_strconv_FormatInt 8 [0, 5, 6]
  [Value.int IntKind.i64 n1, Value.pointer (some (Addr.mk (AW.next h) 0 none)), Value.int IntKind.u64 (IntKind.wrap IntKind.u64 n1)] (AW.addVar h [Value.int IntKind.u8 0, Value.int
  IntKind.u8 0, Value.int IntKind.u8 0, Value.int IntKind.u8 0, Value.int IntKind.u8 0, Value.int IntKind.u8 0, Value.int IntKind.u8 0, Value.int IntKind.u8 0, Value.int IntKind.u8
  0, Value.int IntKind.u8 0, Value.int IntKind.u8 0, Value.int IntKind.u8 0, Value.int IntKind.u8 0, Value.int IntKind.u8 0, Value.int IntKind.u8 0, Value.int IntKind.u8 0,
  Value.int IntKind.u8 0, Value.int IntKind.u8 0, Value.int IntKind.u8 0, Value.int IntKind.u8 0, Value.int IntKind.u8 0, Value.int IntKind.u8 0, Value.int IntKind.u8 0, Value.int
  IntKind.u8 0]) Q))) (bC (decide (n1 < 0)) (unitAt P f_strconv_FormatInt 8 [0, 5, 6] [Value.int IntKind.i64 n1, Value.pointer (some (Addr.mk (AW.next h) 0 none)), Value.int IntKind.u64
  (IntKind.wrap IntKind.u64 (0 - IntKind.wrap IntKind.u64 n1))] (AW.addVar h [Value.int IntKind.u8 0, Value.int IntKind.u8 0, Value.int IntKind.u8 0, Value.int IntKind.u8 0,
  Value.int IntKind.u8 0, Value.int IntKind.u8 0, Value.int IntKind.u8 0, Value.int IntKind.u8 0, Value.int IntKind.u8 0, Value.int IntKind.u8 0, Value.int IntKind.u8 0, Value.int
  IntKind.u8 0, Value.int IntKind.u8 0, Value.int IntKind.u8 0, Value.int IntKind.u8 0, Value.int IntKind.u8 0, Value.int IntKind.u8 0, Value.int IntKind.u8 0, Value.int IntKind.u8
  0, Value.int IntKind.u8 0, Value.int IntKind.u8 0, Value.int IntKind.u8 0, Value.int IntKind.u8 0, Value.int IntKind.u8 0]) Q) (unitAt P f_strconv_FormatInt 8 [0, 5, 6] [Value.int IntKind.i64
  n1, Value.pointer (some (Addr.mk (AW.next h) 0 none)), Value.int IntKind.u64 (IntKind.wrap IntKind.u64 n1)] (AW.addVar h [Value.int IntKind.u8 0, Value.int IntKind.u8 0,
  Value.int IntKind.u8 0, Value.int IntKind.u8 0, Value.int IntKind.u8 0, Value.int IntKind.u8 0, Value.int IntKind.u8 0, Value.int IntKind.u8 0, Value.int IntKind.u8 0, Value.int
  IntKind.u8 0, Value.int IntKind.u8 0, Value.int IntKind.u8 0, Value.int IntKind.u8 0, Value.int IntKind.u8 0, Value.int IntKind.u8 0, Value.int IntKind.u8 0, Value.int IntKind.u8
  0, Value.int IntKind.u8 0, Value.int IntKind.u8 0, Value.int IntKind.u8 0, Value.int IntKind.u8 0, Value.int IntKind.u8 0, Value.int IntKind.u8 0, Value.int IntKind.u8 0]) Q)))
  (EvQ P f_strconv_formatBits [Value.slice none 0 0, Value.int IntKind.u64 (IntKind.wrap IntKind.u64 n1), Value.int IntKind.i64 n2, Value.bool (decide (n1 < 0)), Value.bool false] h fun v6 h7 =>
  vTup v6 fun l8 => lC l8 fun v9 l10 => vSl v9 fun p11 m12 m13 => lC l10 fun v14 l15 => vStr v14 fun s16 => lN l15 (Q (Value.string s16) h7))) : EvQ P f_strconv_FormatInt [Value.int IntKind.i64
  n1, Value.int IntKind.i64 n2] h Q := fn_ok (n := 400) (ann := annOf [(8, [0, 5, 6])]) (Eq.mp (by kernel_rfl) H)
theorem r_strconv_FormatInt_8 {n1 : Int} {m2 : Nat} {n3 : Int} {h : AW} {Q : Value → AW → Prop} (H : EvQ P f_strconv_numDigits [Value.int IntKind.u64 n3] h fun v4 h5 => vInt IntKind.i64 v4 fun n6 => oB
  (sliceQ P h5 ty_24_uint8 (Value.pointer (some (Addr.mk m2 0 none))) (some (Value.int IntKind.i64 1)) (some (Value.int IntKind.i64 (IntKind.wrap IntKind.i64 (1 + n6))))) fun v7 => vSl
  v7 fun p8 m9 m10 => EvQ P f_strconv_formatBase10 [Value.slice p8 m9 m10, Value.int IntKind.u64 n3] h5 fun v11 h12 => bC (decide (n1 < 0)) (oB (natIdx 0 24) fun m13 => oB (AW.wr h12 m2 (0 + m13 *
  1) (Value.int IntKind.u8 45)) fun h14 => oB (sliceQ P h14 ty_24_uint8 (Value.pointer (some (Addr.mk m2 0 none))) none (some (Value.int IntKind.i64 (IntKind.wrap IntKind.i64 (1 +
  n6))))) fun v15 => vSl v15 fun p16 m17 m18 => oB (AW.bytes h14 p16 m17) fun s19 => Q (Value.string s19) h14) (oB (sliceQ P h12 ty_24_uint8 (Value.pointer (some (Addr.mk m2 0 none)))
  (some (Value.int IntKind.i64 1)) (some (Value.int IntKind.i64 (IntKind.wrap IntKind.i64 (1 + n6))))) fun v20 => vSl v20 fun p21 m22 m23 => oB (AW.bytes h12 p21 m22) fun s24 => Q
  (Value.string s24) h12)) : unitAt P f_strconv_FormatInt 8 [0, 5, 6] [Value.int IntKind.i64 n1, Value.pointer (some (Addr.mk m2 0 none)), Value.int IntKind.u64 n3] h Q := unit_ok (n := 400)
  (ann := annOf [(8, [0, 5, 6])]) (Eq.mp (by kernel_rfl) H)
theorem r_strconv_small {n1 : Int} {h : AW} {Q : Value → AW → Prop} (H : bC (decide (n1 < 10)) (oB (natBnd (IntKind.wrap IntKind.i64 (n1 + 1)) 36) fun m2 => oB (natBnd n1 m2) fun m3 => Q
  (Value.string (bSub (ByteArray.mk #[48, 49, 50, 51, 52, 53, 54, 55, 56, 57, 97, 98, 99, 100, 101, 102, 103, 104, 105, 106, 107, 108, 109, 110, 111, 112, 113, 114, 115, 116, 117,
  118, 119, 120, 121, 122]) m3 m2)) h) (oB (natBnd (IntKind.wrap IntKind.i64 (IntKind.wrap IntKind.i64 (n1 * 2) + 2)) 200) fun m4 => oB (natBnd (IntKind.wrap IntKind.i64 (n1 * 2))
  m4) fun m5 => Q (Value.string (bSub (ByteArray.mk (List.toArray (List.append (List.append [48, 48, 48, 49, 48, 50, 48, 51, 48, 52, 48, 53, 48, 54, 48, 55, 48, 56, 48, 57, 49, 48,
  49, 49, 49, 50, 49, 51, 49, 52, 49, 53, 49, 54, 49, 55, 49, 56, 49, 57, 50, 48, 50, 49, 50, 50, 50, 51, 50, 52] [50, 53, 50, 54, 50, 55, 50, 56, 50, 57, 51, 48, 51, 49, 51, 50,
  51, 51, 51, 52, 51, 53, 51, 54, 51, 55, 51, 56, 51, 57, 52, 48, 52, 49, 52, 50, 52, 51, 52, 52, 52, 53, 52, 54, 52, 55, 52, 56, 52, 57]) (List.append [53, 48, 53, 49, 53, 50, 53,
  51, 53, 52, 53, 53, 53, 54, 53, 55, 53, 56, 53, 57, 54, 48, 54, 49, 54, 50, 54, 51, 54, 52, 54, 53, 54, 54, 54, 55, 54, 56, 54, 57, 55, 48, 55, 49, 55, 50, 55, 51, 55, 52] [55,
  53, 55, 54, 55, 55, 55, 56, 55, 57, 56, 48, 56, 49, 56, 50, 56, 51, 56, 52, 56, 53, 56, 54, 56, 55, 56, 56, 56, 57, 57, 48, 57, 49, 57, 50, 57, 51, 57, 52, 57, 53, 57, 54, 57,
  55, 57, 56, 57, 57])))) m5 m4)) h)) : EvQ P f_strconv_small [Value.int IntKind.i64 n1] h Q := fn_ok (n := 400) (ann := annOf []) (Eq.mp (by kernel_rfl) H)
theorem r_strconv_numDigits {n1 : Int} {h : AW} {Q : Value → AW → Prop} (H : EvQ P f_math_bits_Len64 [Value.int IntKind.u64 n1] h fun v2 h3 => vInt IntKind.i64 v2 fun n4 => EvQ P f_strconv_log10Pow2 [Value.int
  IntKind.i64 n4] h3 fun v5 h6 => vInt IntKind.i64 v5 fun n7 => oB (natIdx n7 20) fun m8 => oB (AW.rd h6 2 (0 + m8 * 1)) fun v9 => vInt IntKind.u64 v9 fun n10 => EvQ P f_strconv_bool2_int
  [Value.bool (decide (n1 ≥ n10))] h6 fun v11 h12 => vInt IntKind.i64 v11 fun n13 => Q (Value.int IntKind.i64 (IntKind.wrap IntKind.i64 (n7 + n13))) h12) : EvQ P f_strconv_numDigits [Value.int
  IntKind.u64 n1] h Q := fn_ok (n := 400) (ann := annOf []) (Eq.mp (by kernel_rfl) H)
theorem r_strconv_formatBase10 {p1 : Option Addr} {m2 : Nat} {m3 : Nat} {n4 : Int} {h : AW} {Q : Value → AW → Prop} (H : unitAt P f_strconv_formatBase10 1 [0, 1, 4] [Value.slice p1 m2 m3, Value.int IntKind.u64
  n4, Value.int IntKind.i64 (↑m2 : Int)] h Q) : EvQ P f_strconv_formatBase10 [Value.slice p1 m2 m3, Value.int IntKind.u64 n4] h Q := fn_ok (n := 400) (ann := annOf [(1, [0, 1, 4]), (20, [0, 4,
  12]), (25, [0, 4, 12])]) (Eq.mp (by kernel_rfl) H)
theorem r_strconv_formatBase10_1 {p1 : Option Addr} {m2 : Nat} {m3 : Nat} {n4 : Int} {n5 : Int} {h : AW} {Q : Value → AW → Prop} (H : bC (decide (n5 ≥ 8)) (oB (natIdx (IntKind.wrap IntKind.u32
  (IntKind.wrap IntKind.u32 (Int.tmod (Int.tmod (IntKind.wrap IntKind.u32 (Int.tmod n4 100000000)) 10000) 100 * 2) + 1)) 200) fun m6 => oB (bAt (ByteArray.mk (List.toArray
  (List.append (List.append [48, 48, 48, 49, 48, 50, 48, 51, 48, 52, 48, 53, 48, 54, 48, 55, 48, 56, 48, 57, 49, 48, 49, 49, 49, 50, 49, 51, 49, 52, 49, 53, 49, 54, 49, 55, 49, 56,
  49, 57, 50, 48, 50, 49, 50, 50, 50, 51, 50, 52] [50, 53, 50, 54, 50, 55, 50, 56, 50, 57, 51, 48, 51, 49, 51, 50, 51, 51, 51, 52, 51, 53, 51, 54, 51, 55, 51, 56, 51, 57, 52, 48,
  52, 49, 52, 50, 52, 51, 52, 52, 52, 53, 52, 54, 52, 55, 52, 56, 52, 57]) (List.append [53, 48, 53, 49, 53, 50, 53, 51, 53, 52, 53, 53, 53, 54, 53, 55, 53, 56, 53, 57, 54, 48, 54,
  49, 54, 50, 54, 51, 54, 52, 54, 53, 54, 54, 54, 55, 54, 56, 54, 57, 55, 48, 55, 49, 55, 50, 55, 51, 55, 52] [55, 53, 55, 54, 55, 55, 55, 56, 55, 57, 56, 48, 56, 49, 56, 50, 56,
  51, 56, 52, 56, 53, 56, 54, 56, 55, 56, 56, 56, 57, 57, 48, 57, 49, 57, 50, 57, 51, 57, 52, 57, 53, 57, 54, 57, 55, 57, 56, 57, 57])))) m6) fun n7 => oB (natIdx (IntKind.wrap
  IntKind.u32 (Int.tmod (Int.tmod (IntKind.wrap IntKind.u32 (Int.tmod n4 100000000)) 10000) 100 * 2)) 200) fun m8 => oB (bAt (ByteArray.mk (List.toArray (List.append (List.append
  [48, 48, 48, 49, 48, 50, 48, 51, 48, 52, 48, 53, 48, 54, 48, 55, 48, 56, 48, 57, 49, 48, 49, 49, 49, 50, 49, 51, 49, 52, 49, 53, 49, 54, 49, 55, 49, 56, 49, 57, 50, 48, 50, 49,
  50, 50, 50, 51, 50, 52] [50, 53, 50, 54, 50, 55, 50, 56, 50, 57, 51, 48, 51, 49, 51, 50, 51, 51, 51, 52, 51, 53, 51, 54, 51, 55, 51, 56, 51, 57, 52, 48, 52, 49, 52, 50, 52, 51,
  52, 52, 52, 53, 52, 54, 52, 55, 52, 56, 52, 57]) (List.append [53, 48, 53, 49, 53, 50, 53, 51, 53, 52, 53, 53, 53, 54, 53, 55, 53, 56, 53, 57, 54, 48, 54, 49, 54, 50, 54, 51, 54,
  52, 54, 53, 54, 54, 54, 55, 54, 56, 54, 57, 55, 48, 55, 49, 55, 50, 55, 51, 55, 52] [55, 53, 55, 54, 55, 55, 55, 56, 55, 57, 56, 48, 56, 49, 56, 50, 56, 51, 56, 52, 56, 53, 56,
  54, 56, 55, 56, 56, 56, 57, 57, 48, 57, 49, 57, 50, 57, 51, 57, 52, 57, 53, 57, 54, 57, 55, 57, 56, 57, 57])))) m8) fun n9 => aP p1 fun m10 m11 => oB (natIdx (IntKind.wrap
  IntKind.i64 (n5 - 1)) m2) fun m12 => oB (AW.wr h m10 (m11 + m12 * 1) (Value.int IntKind.u8 n7)) fun h13 => aP p1 fun m14 m15 => oB (natIdx (IntKind.wrap IntKind.i64 (n5 - 2)) m2)
  fun m16 => oB (AW.wr h13 m14 (m15 + m16 * 1) (Value.int IntKind.u8 n9)) fun h17 => oB (natIdx (IntKind.wrap IntKind.u32 (IntKind.wrap IntKind.u32 (IntKind.wrap IntKind.u32
  (Int.tdiv (Int.tmod (IntKind.wrap IntKind.u32 (Int.tmod n4 100000000)) 10000) 100) * 2) + 1)) 200) fun m18 => oB (bAt (ByteArray.mk (List.toArray (List.append (List.append [48,
  48, 48, 49, 48, 50, 48, 51, 48, 52, 48, 53, 48, 54, 48, 55, 48, 56, 48, 57, 49, 48, 49, 49, 49, 50, 49, 51, 49, 52, 49, 53, 49, 54, 49, 55, 49, 56, 49, 57, 50, 48, 50, 49, 50,
  50, 50, 51, 50, 52] [50, 53, 50, 54, 50, 55, 50, 56, 50, 57, 51, 48, 51, 49, 51, 50, 51, 51, 51, 52, 51, 53, 51, 54, 51, 55, 51, 56, 51, 57, 52, 48, 52, 49, 52, 50, 52, 51, 52,
  52, 52, 53, 52, 54, 52, 55, 52, 56, 52, 57]) (List.append [53, 48, 53, 49, 53, 50, 53, 51, 53, 52, 53, 53, 53, 54, 53, 55, 53, 56, 53, 57, 54, 48, 54, 49, 54, 50, 54, 51, 54, 52,
  54, 53, 54, 54, 54, 55, 54, 56, 54, 57, 55, 48, 55, 49, 55, 50, 55, 51, 55, 52] [55, 53, 55, 54, 55, 55, 55, 56, 55, 57, 56, 48, 56, 49, 56, 50, 56, 51, 56, 52, 56, 53, 56, 54,
  56, 55, 56, 56, 56, 57, 57, 48, 57, 49, 57, 50, 57, 51, 57, 52, 57, 53, 57, 54, 57, 55, 57, 56, 57, 57])))) m18) fun n19 => oB (natIdx (IntKind.wrap IntKind.u32 (IntKind.wrap
  IntKind.u32 (Int.tdiv (Int.tmod (IntKind.wrap IntKind.u32 (Int.tmod n4 100000000)) 10000) 100) * 2)) 200) fun m20 => oB (bAt (ByteArray.mk (List.toArray (List.append (List.append
  [48, 48, 48, 49, 48, 50, 48, 51, 48, 52, 48, 53, 48, 54, 48, 55, 48, 56, 48, 57, 49, 48, 49, 49, 49, 50, 49, 51, 49, 52, 49, 53, 49, 54, 49, 55, 49, 56, 49, 57, 50, 48, 50, 49,
  50, 50, 50, 51, 50, 52] [50, 53, 50, 54, 50, 55, 50, 56, 50, 57, 51, 48, 51, 49, 51, 50, 51, 51, 51, 52, 51, 53, 51, 54, 51, 55, 51, 56, 51, 57, 52, 48, 52, 49, 52, 50, 52, 51,
  52, 52, 52, 53, 52, 54, 52, 55, 52, 56, 52, 57]) (List.append [53, 48, 53, 49, 53, 50, 53, 51, 53, 52, 53, 53, 53, 54, 53, 55, 53, 56, 53, 57, 54, 48, 54, 49, 54, 50, 54, 51, 54,
  52, 54, 53, 54, 54, 54, 55, 54, 56, 54, 57, 55, 48, 55, 49, 55, 50, 55, 51, 55, 52] [55, 53, 55, 54, 55, 55, 55, 56, 55, 57, 56, 48, 56, 49, 56, 50, 56, 51, 56, 52, 56, 53, 56,
  54, 56, 55, 56, 56, 56, 57, 57, 48, 57, 49, 57, 50, 57, 51, 57, 52, 57, 53, 57, 54, 57, 55, 57, 56, 57, 57])))) m20) fun n21 => aP p1 fun m22 m23 => oB (natIdx (IntKind.wrap
  IntKind.i64 (n5 - 3)) m2) fun m24 => oB (AW.wr h17 m22 (m23 + m24 * 1) (Value.int IntKind.u8 n19)) fun h25 => aP p1 fun m26 m27 => oB (natIdx (IntKind.wrap IntKind.i64 (n5 - 4))
  m2) fun m28 => oB (AW.wr h25 m26 (m27 + m28 * 1) (Value.int IntKind.u8 n21)) fun h29 => oB (natIdx (IntKind.wrap IntKind.u32 (IntKind.wrap IntKind.u32 (Int.tmod (IntKind.wrap
  IntKind.u32 (Int.tdiv (IntKind.wrap IntKind.u32 (Int.tmod n4 100000000)) 10000)) 100 * 2) + 1)) 200) fun m30 => oB (bAt (ByteArray.mk (List.toArray (List.append (List.append [48,
  48, 48, 49, 48, 50, 48, 51, 48, 52, 48, 53, 48, 54, 48, 55, 48, 56, 48, 57, 49, 48, 49, 49, 49, 50, 49, 51, 49, 52, 49, 53, 49, 54, 49, 55, 49, 56, 49, 57, 50, 48, 50, 49, 50,
  50, 50, 51, 50, 52] [50, 53, 50, 54, 50, 55, 50, 56, 50, 57, 51, 48, 51, 49, 51, 50, 51, 51, 51, 52, 51, 53, 51, 54, 51, 55, 51, 56, 51, 57, 52, 48, 52, 49, 52, 50, 52, 51, 52,
  52, 52, 53, 52, 54, 52, 55, 52, 56, 52, 57]) (List.append [53, 48, 53, 49, 53, 50, 53, 51, 53, 52, 53, 53, 53, 54, 53, 55, 53, 56, 53, 57, 54, 48, 54, 49, 54, 50, 54, 51, 54, 52,
  54, 53, 54, 54, 54, 55, 54, 56, 54, 57, 55, 48, 55, 49, 55, 50, 55, 51, 55, 52] [55, 53, 55, 54, 55, 55, 55, 56, 55, 57, 56, 48, 56, 49, 56, 50, 56, 51, 56, 52, 56, 53, 56, 54,
  56, 55, 56, 56, 56, 57, 57, 48, 57, 49, 57, 50, 57, 51, 57, 52, 57, 53, 57, 54, 57, 55, 57, 56, 57, 57])))) m30) fun n31 => oB (natIdx (IntKind.wrap IntKind.u32 (Int.tmod
  (IntKind.wrap IntKind.u32 (Int.tdiv (IntKind.wrap IntKind.u32 (Int.tmod n4 100000000)) 10000)) 100 * 2)) 200) fun m32 => oB (bAt (ByteArray.mk (List.toArray (List.append
  (List.append [48, 48, 48, 49, 48, 50, 48, 51, 48, 52, 48, 53, 48, 54, 48, 55, 48, 56, 48, 57, 49, 48, 49, 49, 49, 50, 49, 51, 49, 52, 49, 53, 49, 54, 49, 55, 49, 56, 49, 57, 50,
  48, 50, 49, 50, 50, 50, 51, 50, 52] [50, 53, 50, 54, 50, 55, 50, 56, 50, 57, 51, 48, 51, 49, 51, 50, 51, 51, 51, 52, 51, 53, 51, 54, 51, 55, 51, 56, 51, 57, 52, 48, 52, 49, 52,
  50, 52, 51, 52, 52, 52, 53, 52, 54, 52, 55, 52, 56, 52, 57]) (List.append [53, 48, 53, 49, 53, 50, 53, 51, 53, 52, 53, 53, 53, 54, 53, 55, 53, 56, 53, 57, 54, 48, 54, 49, 54, 50,
  54, 51, 54, 52, 54, 53, 54, 54, 54, 55, 54, 56, 54, 57, 55, 48, 55, 49, 55, 50, 55, 51, 55, 52] [55, 53, 55, 54, 55, 55, 55, 56, 55, 57, 56, 48, 56, 49, 56, 50, 56, 51, 56, 52,
  56, 53, 56, 54, 56, 55, 56, 56, 56, 57, 57, 48, 57, 49, 57, 50, 57, 51, 57, 52, 57, 53, 57, 54, 57, 55, 57, 56, 57, 57])))) m32) fun n33 => aP p1 fun m34 m35 => oB (natIdx
  (IntKind.wrap IntKind.i64 (n5 - 5)) m2) fun m36 => oB (AW.wr h29 m34 (m35 + m36 * 1) (Value.int IntKind.u8 n31)) fun h37 => aP p1 fun m38 m39 => oB (natIdx (IntKind.wrap
  IntKind.i64 (n5 - 6)) m2) fun m40 => oB (AW.wr h37 m38 (m39 + m40 * 1) (Value.int IntKind.u8 n33)) fun h41 => oB (natIdx (IntKind.wrap IntKind.u32 (IntKind.wrap IntKind.u32
  (IntKind.wrap IntKind.u32 (Int.tdiv (IntKind.wrap IntKind.u32 (Int.tdiv (IntKind.wrap IntKind.u32 (Int.tmod n4 100000000)) 10000)) 100) * 2) + 1)) 200) fun m42 => oB (bAt
  (ByteArray.mk (List.toArray (List.append (List.append [48, 48, 48, 49, 48, 50, 48, 51, 48, 52, 48, 53, 48, 54, 48, 55, 48, 56, 48, 57, 49, 48, 49, 49, 49, 50, 49, 51, 49, 52, 49,
  53, 49, 54, 49, 55, 49, 56, 49, 57, 50, 48, 50, 49, 50, 50, 50, 51, 50, 52] [50, 53, 50, 54, 50, 55, 50, 56, 50, 57, 51, 48, 51, 49, 51, 50, 51, 51, 51, 52, 51, 53, 51, 54, 51,
  55, 51, 56, 51, 57, 52, 48, 52, 49, 52, 50, 52, 51, 52, 52, 52, 53, 52, 54, 52, 55, 52, 56, 52, 57]) (List.append [53, 48, 53, 49, 53, 50, 53, 51, 53, 52, 53, 53, 53, 54, 53, 55,
  53, 56, 53, 57, 54, 48, 54, 49, 54, 50, 54, 51, 54, 52, 54, 53, 54, 54, 54, 55, 54, 56, 54, 57, 55, 48, 55, 49, 55, 50, 55, 51, 55, 52] [55, 53, 55, 54, 55, 55, 55, 56, 55, 57,
  56, 48, 56, 49, 56, 50, 56, 51, 56, 52, 56, 53, 56, 54, 56, 55, 56, 56, 56, 57, 57, 48, 57, 49, 57, 50, 57, 51, 57, 52, 57, 53, 57, 54, 57, 55, 57, 56, 57, 57])))) m42) fun n43
  => oB (natIdx (IntKind.wrap IntKind.u32 (IntKind.wrap IntKind.u32 (Int.tdiv (IntKind.wrap IntKind.u32 (Int.tdiv (IntKind.wrap IntKind.u32 (Int.tmod n4 100000000)) 10000)) 100) *
  2)) 200) fun m44 => oB (bAt (ByteArray.mk (List.toArray (List.append (List.append [48, 48, 48, 49, 48, 50, 48, 51, 48, 52, 48, 53, 48, 54, 48, 55, 48, 56, 48, 57, 49, 48, 49, 49,
  49, 50, 49, 51, 49, 52, 49, 53, 49, 54, 49, 55, 49, 56, 49, 57, 50, 48, 50, 49, 50, 50, 50, 51, 50, 52] [50, 53, 50, 54, 50, 55, 50, 56, 50, 57, 51, 48, 51, 49, 51, 50, 51, 51,
  51, 52, 51, 53, 51, 54, 51, 55, 51, 56, 51, 57, 52, 48, 52, 49, 52, 50, 52, 51, 52, 52, 52, 53, 52, 54, 52, 55, 52, 56, 52, 57]) (List.append [53, 48, 53, 49, 53, 50, 53, 51, 53,
  52, 53, 53, 53, 54, 53, 55, 53, 56, 53, 57, 54, 48, 54, 49, 54, 50, 54, 51, 54, 52, 54, 53, 54, 54, 54, 55, 54, 56, 54, 57, 55, 48, 55, 49, 55, 50, 55, 51, 55, 52] [55, 53, 55,
  54, 55, 55, 55, 56, 55, 57, 56, 48, 56, 49, 56, 50, 56, 51, 56, 52, 56, 53, 56, 54, 56, 55, 56, 56, 56, 57, 57, 48, 57, 49, 57, 50, 57, 51, 57, 52, 57, 53, 57, 54, 57, 55, 57,
  56, 57, 57])))) m44) fun n45 => aP p1 fun m46 m47 => oB (natIdx (IntKind.wrap IntKind.i64 (n5 - 7)) m2) fun m48 => oB (AW.wr h41 m46 (m47 + m48 * 1) (Value.int IntKind.u8 n43))
  fun h49 => aP p1 fun m50 m51 => oB (natIdx (IntKind.wrap IntKind.i64 (n5 - 8)) m2) fun m52 => oB (AW.wr h49 m50 (m51 + m52 * 1) (Value.int IntKind.u8 n45)) fun h53 => unitAt P
  f_strconv_formatBase10 1 [0, 1, 4] [Value.slice p1 m2 m3, Value.int IntKind.u64 (IntKind.wrap IntKind.u64 (Int.tdiv n4 100000000)), Value.int IntKind.i64 (IntKind.wrap IntKind.i64 (n5 - 8))] h53
  Q) (bC (decide (n5 ≥ 4)) (oB (natIdx (IntKind.wrap IntKind.u32 (IntKind.wrap IntKind.u32 (Int.tmod (Int.tmod (IntKind.wrap IntKind.u32 n4) 10000) 100 * 2) + 1)) 200) fun m54 =>
  oB (bAt (ByteArray.mk (List.toArray (List.append (List.append [48, 48, 48, 49, 48, 50, 48, 51, 48, 52, 48, 53, 48, 54, 48, 55, 48, 56, 48, 57, 49, 48, 49, 49, 49, 50, 49, 51, 49,
  52, 49, 53, 49, 54, 49, 55, 49, 56, 49, 57, 50, 48, 50, 49, 50, 50, 50, 51, 50, 52] [50, 53, 50, 54, 50, 55, 50, 56, 50, 57, 51, 48, 51, 49, 51, 50, 51, 51, 51, 52, 51, 53, 51,
  54, 51, 55, 51, 56, 51, 57, 52, 48, 52, 49, 52, 50, 52, 51, 52, 52, 52, 53, 52, 54, 52, 55, 52, 56, 52, 57]) (List.append [53, 48, 53, 49, 53, 50, 53, 51, 53, 52, 53, 53, 53, 54,
  53, 55, 53, 56, 53, 57, 54, 48, 54, 49, 54, 50, 54, 51, 54, 52, 54, 53, 54, 54, 54, 55, 54, 56, 54, 57, 55, 48, 55, 49, 55, 50, 55, 51, 55, 52] [55, 53, 55, 54, 55, 55, 55, 56,
  55, 57, 56, 48, 56, 49, 56, 50, 56, 51, 56, 52, 56, 53, 56, 54, 56, 55, 56, 56, 56, 57, 57, 48, 57, 49, 57, 50, 57, 51, 57, 52, 57, 53, 57, 54, 57, 55, 57, 56, 57, 57])))) m54)
  fun n55 => oB (natIdx (IntKind.wrap IntKind.u32 (Int.tmod (Int.tmod (IntKind.wrap IntKind.u32 n4) 10000) 100 * 2)) 200) fun m56 => oB (bAt (ByteArray.mk (List.toArray
  (List.append (List.append [48, 48, 48, 49, 48, 50, 48, 51, 48, 52, 48, 53, 48, 54, 48, 55, 48, 56, 48, 57, 49, 48, 49, 49, 49, 50, 49, 51, 49, 52, 49, 53, 49, 54, 49, 55, 49, 56,
  49, 57, 50, 48, 50, 49, 50, 50, 50, 51, 50, 52] [50, 53, 50, 54, 50, 55, 50, 56, 50, 57, 51, 48, 51, 49, 51, 50, 51, 51, 51, 52, 51, 53, 51, 54, 51, 55, 51, 56, 51, 57, 52, 48,
  52, 49, 52, 50, 52, 51, 52, 52, 52, 53, 52, 54, 52, 55, 52, 56, 52, 57]) (List.append [53, 48, 53, 49, 53, 50, 53, 51, 53, 52, 53, 53, 53, 54, 53, 55, 53, 56, 53, 57, 54, 48, 54,
  49, 54, 50, 54, 51, 54, 52, 54, 53, 54, 54, 54, 55, 54, 56, 54, 57, 55, 48, 55, 49, 55, 50, 55, 51, 55, 52] [55, 53, 55, 54, 55, 55, 55, 56, 55, 57, 56, 48, 56, 49, 56, 50, 56,
  51, 56, 52, 56, 53, 56, 54, 56, 55, 56, 56, 56, 57, 57, 48, 57, 49, 57, 50, 57, 51, 57, 52, 57, 53, 57, 54, 57, 55, 57, 56, 57, 57])))) m56) fun n57 => aP p1 fun m58 m59 => oB
  (natIdx (IntKind.wrap IntKind.i64 (n5 - 1)) m2) fun m60 => oB (AW.wr h m58 (m59 + m60 * 1) (Value.int IntKind.u8 n55)) fun h61 => aP p1 fun m62 m63 => oB (natIdx (IntKind.wrap
  IntKind.i64 (n5 - 2)) m2) fun m64 => oB (AW.wr h61 m62 (m63 + m64 * 1) (Value.int IntKind.u8 n57)) fun h65 => oB (natIdx (IntKind.wrap IntKind.u32 (IntKind.wrap IntKind.u32
  (IntKind.wrap IntKind.u32 (Int.tdiv (Int.tmod (IntKind.wrap IntKind.u32 n4) 10000) 100) * 2) + 1)) 200) fun m66 => oB (bAt (ByteArray.mk (List.toArray (List.append (List.append
  [48, 48, 48, 49, 48, 50, 48, 51, 48, 52, 48, 53, 48, 54, 48, 55, 48, 56, 48, 57, 49, 48, 49, 49, 49, 50, 49, 51, 49, 52, 49, 53, 49, 54, 49, 55, 49, 56, 49, 57, 50, 48, 50, 49,
  50, 50, 50, 51, 50, 52] [50, 53, 50, 54, 50, 55, 50, 56, 50, 57, 51, 48, 51, 49, 51, 50, 51, 51, 51, 52, 51, 53, 51, 54, 51, 55, 51, 56, 51, 57, 52, 48, 52, 49, 52, 50, 52, 51,
  52, 52, 52, 53, 52, 54, 52, 55, 52, 56, 52, 57]) (List.append [53, 48, 53, 49, 53, 50, 53, 51, 53, 52, 53, 53, 53, 54, 53, 55, 53, 56, 53, 57, 54, 48, 54, 49, 54, 50, 54, 51, 54,
  52, 54, 53, 54, 54, 54, 55, 54, 56, 54, 57, 55, 48, 55, 49, 55, 50, 55, 51, 55, 52] [55, 53, 55, 54, 55, 55, 55, 56, 55, 57, 56, 48, 56, 49, 56, 50, 56, 51, 56, 52, 56, 53, 56,
  54, 56, 55, 56, 56, 56, 57, 57, 48, 57, 49, 57, 50, 57, 51, 57, 52, 57, 53, 57, 54, 57, 55, 57, 56, 57, 57])))) m66) fun n67 => oB (natIdx (IntKind.wrap IntKind.u32 (IntKind.wrap
  IntKind.u32 (Int.tdiv (Int.tmod (IntKind.wrap IntKind.u32 n4) 10000) 100) * 2)) 200) fun m68 => oB (bAt (ByteArray.mk (List.toArray (List.append (List.append [48, 48, 48, 49, 48,
  50, 48, 51, 48, 52, 48, 53, 48, 54, 48, 55, 48, 56, 48, 57, 49, 48, 49, 49, 49, 50, 49, 51, 49, 52, 49, 53, 49, 54, 49, 55, 49, 56, 49, 57, 50, 48, 50, 49, 50, 50, 50, 51, 50,
  52] [50, 53, 50, 54, 50, 55, 50, 56, 50, 57, 51, 48, 51, 49, 51, 50, 51, 51, 51, 52, 51, 53, 51, 54, 51, 55, 51, 56, 51, 57, 52, 48, 52, 49, 52, 50, 52, 51, 52, 52, 52, 53, 52,
  54, 52, 55, 52, 56, 52, 57]) (List.append [53, 48, 53, 49, 53, 50, 53, 51, 53, 52, 53, 53, 53, 54, 53, 55, 53, 56, 53, 57, 54, 48, 54, 49, 54, 50, 54, 51, 54, 52, 54, 53, 54, 54,
  54, 55, 54, 56, 54, 57, 55, 48, 55, 49, 55, 50, 55, 51, 55, 52] [55, 53, 55, 54, 55, 55, 55, 56, 55, 57, 56, 48, 56, 49, 56, 50, 56, 51, 56, 52, 56, 53, 56, 54, 56, 55, 56, 56,
  56, 57, 57, 48, 57, 49, 57, 50, 57, 51, 57, 52, 57, 53, 57, 54, 57, 55, 57, 56, 57, 57])))) m68) fun n69 => aP p1 fun m70 m71 => oB (natIdx (IntKind.wrap IntKind.i64 (n5 - 3))
  m2) fun m72 => oB (AW.wr h65 m70 (m71 + m72 * 1) (Value.int IntKind.u8 n67)) fun h73 => aP p1 fun m74 m75 => oB (natIdx (IntKind.wrap IntKind.i64 (n5 - 4)) m2) fun m76 => oB
  (AW.wr h73 m74 (m75 + m76 * 1) (Value.int IntKind.u8 n69)) fun h77 => unitAt P f_strconv_formatBase10 20 [0, 4, 12] [Value.slice p1 m2 m3, Value.int IntKind.i64 (IntKind.wrap IntKind.i64 (n5 -
  4)), Value.int IntKind.u32 (IntKind.wrap IntKind.u32 (Int.tdiv (IntKind.wrap IntKind.u32 n4) 10000))] h77 Q) (unitAt P f_strconv_formatBase10 20 [0, 4, 12] [Value.slice p1 m2 m3, Value.int
  IntKind.i64 n5, Value.int IntKind.u32 (IntKind.wrap IntKind.u32 n4)] h Q))) : unitAt P f_strconv_formatBase10 1 [0, 1, 4] [Value.slice p1 m2 m3, Value.int IntKind.u64 n4, Value.int IntKind.i64
  n5] h Q := unit_ok (n := 400) (ann := annOf [(1, [0, 1, 4]), (20, [0, 4, 12]), (25, [0, 4, 12])]) (Eq.mp (by kernel_rfl) H)
theorem r_strconv_formatBase10_20 {p1 : Option Addr} {m2 : Nat} {m3 : Nat} {n4 : Int} {n5 : Int} {h : AW} {Q : Value → AW → Prop} (H : bC (decide (n4 ≥ 2)) (oB (natIdx (IntKind.wrap IntKind.u32
  (IntKind.wrap IntKind.u32 (Int.tmod n5 100 * 2) + 1)) 200) fun m6 => oB (bAt (ByteArray.mk (List.toArray (List.append (List.append [48, 48, 48, 49, 48, 50, 48, 51, 48, 52, 48,
  53, 48, 54, 48, 55, 48, 56, 48, 57, 49, 48, 49, 49, 49, 50, 49, 51, 49, 52, 49, 53, 49, 54, 49, 55, 49, 56, 49, 57, 50, 48, 50, 49, 50, 50, 50, 51, 50, 52] [50, 53, 50, 54, 50,
  55, 50, 56, 50, 57, 51, 48, 51, 49, 51, 50, 51, 51, 51, 52, 51, 53, 51, 54, 51, 55, 51, 56, 51, 57, 52, 48, 52, 49, 52, 50, 52, 51, 52, 52, 52, 53, 52, 54, 52, 55, 52, 56, 52,
  57]) (List.append [53, 48, 53, 49, 53, 50, 53, 51, 53, 52, 53, 53, 53, 54, 53, 55, 53, 56, 53, 57, 54, 48, 54, 49, 54, 50, 54, 51, 54, 52, 54, 53, 54, 54, 54, 55, 54, 56, 54, 57,
  55, 48, 55, 49, 55, 50, 55, 51, 55, 52] [55, 53, 55, 54, 55, 55, 55, 56, 55, 57, 56, 48, 56, 49, 56, 50, 56, 51, 56, 52, 56, 53, 56, 54, 56, 55, 56, 56, 56, 57, 57, 48, 57, 49,
  57, 50, 57, 51, 57, 52, 57, 53, 57, 54, 57, 55, 57, 56, 57, 57])))) m6) fun n7 => oB (natIdx (IntKind.wrap IntKind.u32 (Int.tmod n5 100 * 2)) 200) fun m8 => oB (bAt (ByteArray.mk
  (List.toArray (List.append (List.append [48, 48, 48, 49, 48, 50, 48, 51, 48, 52, 48, 53, 48, 54, 48, 55, 48, 56, 48, 57, 49, 48, 49, 49, 49, 50, 49, 51, 49, 52, 49, 53, 49, 54,
  49, 55, 49, 56, 49, 57, 50, 48, 50, 49, 50, 50, 50, 51, 50, 52] [50, 53, 50, 54, 50, 55, 50, 56, 50, 57, 51, 48, 51, 49, 51, 50, 51, 51, 51, 52, 51, 53, 51, 54, 51, 55, 51, 56,
  51, 57, 52, 48, 52, 49, 52, 50, 52, 51, 52, 52, 52, 53, 52, 54, 52, 55, 52, 56, 52, 57]) (List.append [53, 48, 53, 49, 53, 50, 53, 51, 53, 52, 53, 53, 53, 54, 53, 55, 53, 56, 53,
  57, 54, 48, 54, 49, 54, 50, 54, 51, 54, 52, 54, 53, 54, 54, 54, 55, 54, 56, 54, 57, 55, 48, 55, 49, 55, 50, 55, 51, 55, 52] [55, 53, 55, 54, 55, 55, 55, 56, 55, 57, 56, 48, 56,
  49, 56, 50, 56, 51, 56, 52, 56, 53, 56, 54, 56, 55, 56, 56, 56, 57, 57, 48, 57, 49, 57, 50, 57, 51, 57, 52, 57, 53, 57, 54, 57, 55, 57, 56, 57, 57])))) m8) fun n9 => aP p1 fun
  m10 m11 => oB (natIdx (IntKind.wrap IntKind.i64 (n4 - 1)) m2) fun m12 => oB (AW.wr h m10 (m11 + m12 * 1) (Value.int IntKind.u8 n7)) fun h13 => aP p1 fun m14 m15 => oB (natIdx
  (IntKind.wrap IntKind.i64 (n4 - 2)) m2) fun m16 => oB (AW.wr h13 m14 (m15 + m16 * 1) (Value.int IntKind.u8 n9)) fun h17 => unitAt P f_strconv_formatBase10 25 [0, 4, 12] [Value.slice p1 m2 m3,
  Value.int IntKind.i64 (IntKind.wrap IntKind.i64 (n4 - 2)), Value.int IntKind.u32 (IntKind.wrap IntKind.u32 (Int.tdiv n5 100))] h17 Q) (unitAt P f_strconv_formatBase10 25 [0, 4, 12] [Value.slice
  p1 m2 m3, Value.int IntKind.i64 n4, Value.int IntKind.u32 n5] h Q)) : unitAt P f_strconv_formatBase10 20 [0, 4, 12] [Value.slice p1 m2 m3, Value.int IntKind.i64 n4, Value.int IntKind.u32 n5] h Q
  := unit_ok (n := 400) (ann := annOf [(1, [0, 1, 4]), (20, [0, 4, 12]), (25, [0, 4, 12])]) (Eq.mp (by kernel_rfl) H)
theorem r_strconv_formatBase10_25 {p1 : Option Addr} {m2 : Nat} {m3 : Nat} {n4 : Int} {n5 : Int} {h : AW} {Q : Value → AW → Prop} (H : bC (decide (n4 > 0)) (aP p1 fun m6 m7 => oB (natIdx 0 m2)
  fun m8 => oB (AW.wr h m6 (m7 + m8 * 1) (Value.int IntKind.u8 (IntKind.wrap IntKind.u8 (IntKind.wrap IntKind.u32 (48 + n5))))) fun h9 => Q (Value.tuple (Array.mk [])) h9) (Q
  (Value.tuple (Array.mk [])) h)) : unitAt P f_strconv_formatBase10 25 [0, 4, 12] [Value.slice p1 m2 m3, Value.int IntKind.i64 n4, Value.int IntKind.u32 n5] h Q := unit_ok (n := 400) (ann := annOf
  [(1, [0, 1, 4]), (20, [0, 4, 12]), (25, [0, 4, 12])]) (Eq.mp (by kernel_rfl) H)
theorem r_strconv_log10Pow2 {n1 : Int} {h : AW} {Q : Value → AW → Prop} (H : Q (Value.int IntKind.i64 (Int.fdiv (IntKind.wrap IntKind.i64 (n1 * 78913)) 262144)) h) : EvQ P f_strconv_log10Pow2 [Value.int
  IntKind.i64 n1] h Q := fn_ok (n := 400) (ann := annOf []) (Eq.mp (by kernel_rfl) H)
theorem r_math_bits_Len64 {n1 : Int} {h : AW} {Q : Value → AW → Prop} (H : bC (decide (n1 ≥ 4294967296)) (unitAt P f_math_bits_Len64 4 [0, 2] [Value.int IntKind.u64 (Int.fdiv n1 4294967296), Value.int
  IntKind.i64 32] h Q) (unitAt P f_math_bits_Len64 4 [0, 2] [Value.int IntKind.u64 n1, Value.int IntKind.i64 0] h Q)) : EvQ P f_math_bits_Len64 [Value.int IntKind.u64 n1] h Q := fn_ok (n := 400) (ann :=
  annOf [(4, [0, 2]), (7, [0, 2])]) (Eq.mp (by kernel_rfl) H)
theorem r_math_bits_Len64_4 {n1 : Int} {n2 : Int} {h : AW} {Q : Value → AW → Prop} (H : bC (decide (n1 ≥ 65536)) (unitAt P f_math_bits_Len64 7 [0, 2] [Value.int IntKind.u64 (Int.fdiv n1 65536),
  Value.int IntKind.i64 (IntKind.wrap IntKind.i64 (n2 + 16))] h Q) (unitAt P f_math_bits_Len64 7 [0, 2] [Value.int IntKind.u64 n1, Value.int IntKind.i64 n2] h Q)) : unitAt P f_math_bits_Len64 4 [0, 2]
  [Value.int IntKind.u64 n1, Value.int IntKind.i64 n2] h Q := unit_ok (n := 400) (ann := annOf [(4, [0, 2]), (7, [0, 2])]) (Eq.mp (by kernel_rfl) H)
theorem r_math_bits_Len64_7 {n1 : Int} {n2 : Int} {h : AW} {Q : Value → AW → Prop} (H : bC (decide (n1 ≥ 256)) (oB (natIdx (IntKind.wrap IntKind.u8 (Int.fdiv n1 256)) 256) fun m3 => oB (bAt
  (ByteArray.mk (List.toArray (List.append (List.append [0, 1, 2, 2, 3, 3, 3, 3, 4, 4, 4, 4, 4, 4, 4, 4, 5, 5, 5, 5, 5, 5, 5, 5, 5, 5, 5, 5, 5, 5, 5, 5, 6, 6, 6, 6, 6, 6, 6, 6, 6,
  6, 6, 6, 6, 6, 6, 6, 6, 6, 6, 6, 6, 6, 6, 6, 6, 6, 6, 6, 6, 6, 6, 6] [7, 7, 7, 7, 7, 7, 7, 7, 7, 7, 7, 7, 7, 7, 7, 7, 7, 7, 7, 7, 7, 7, 7, 7, 7, 7, 7, 7, 7, 7, 7, 7, 7, 7, 7, 7,
  7, 7, 7, 7, 7, 7, 7, 7, 7, 7, 7, 7, 7, 7, 7, 7, 7, 7, 7, 7, 7, 7, 7, 7, 7, 7, 7, 7]) (List.append [8, 8, 8, 8, 8, 8, 8, 8, 8, 8, 8, 8, 8, 8, 8, 8, 8, 8, 8, 8, 8, 8, 8, 8, 8, 8,
  8, 8, 8, 8, 8, 8, 8, 8, 8, 8, 8, 8, 8, 8, 8, 8, 8, 8, 8, 8, 8, 8, 8, 8, 8, 8, 8, 8, 8, 8, 8, 8, 8, 8, 8, 8, 8, 8] [8, 8, 8, 8, 8, 8, 8, 8, 8, 8, 8, 8, 8, 8, 8, 8, 8, 8, 8, 8, 8,
  8, 8, 8, 8, 8, 8, 8, 8, 8, 8, 8, 8, 8, 8, 8, 8, 8, 8, 8, 8, 8, 8, 8, 8, 8, 8, 8, 8, 8, 8, 8, 8, 8, 8, 8, 8, 8, 8, 8, 8, 8, 8, 8])))) m3) fun n4 => Q (Value.int IntKind.i64
  (IntKind.wrap IntKind.i64 (IntKind.wrap IntKind.i64 (n2 + 8) + IntKind.wrap IntKind.i64 n4))) h) (oB (natIdx (IntKind.wrap IntKind.u8 n1) 256) fun m5 => oB (bAt (ByteArray.mk
  (List.toArray (List.append (List.append [0, 1, 2, 2, 3, 3, 3, 3, 4, 4, 4, 4, 4, 4, 4, 4, 5, 5, 5, 5, 5, 5, 5, 5, 5, 5, 5, 5, 5, 5, 5, 5, 6, 6, 6, 6, 6, 6, 6, 6, 6, 6, 6, 6, 6, 6,
  6, 6, 6, 6, 6, 6, 6, 6, 6, 6, 6, 6, 6, 6, 6, 6, 6, 6] [7, 7, 7, 7, 7, 7, 7, 7, 7, 7, 7, 7, 7, 7, 7, 7, 7, 7, 7, 7, 7, 7, 7, 7, 7, 7, 7, 7, 7, 7, 7, 7, 7, 7, 7, 7, 7, 7, 7, 7, 7,
  7, 7, 7, 7, 7, 7, 7, 7, 7, 7, 7, 7, 7, 7, 7, 7, 7, 7, 7, 7, 7, 7, 7]) (List.append [8, 8, 8, 8, 8, 8, 8, 8, 8, 8, 8, 8, 8, 8, 8, 8, 8, 8, 8, 8, 8, 8, 8, 8, 8, 8, 8, 8, 8, 8, 8,
  8, 8, 8, 8, 8, 8, 8, 8, 8, 8, 8, 8, 8, 8, 8, 8, 8, 8, 8, 8, 8, 8, 8, 8, 8, 8, 8, 8, 8, 8, 8, 8, 8] [8, 8, 8, 8, 8, 8, 8, 8, 8, 8, 8, 8, 8, 8, 8, 8, 8, 8, 8, 8, 8, 8, 8, 8, 8, 8,
  8, 8, 8, 8, 8, 8, 8, 8, 8, 8, 8, 8, 8, 8, 8, 8, 8, 8, 8, 8, 8, 8, 8, 8, 8, 8, 8, 8, 8, 8, 8, 8, 8, 8, 8, 8, 8, 8])))) m5) fun n6 => Q (Value.int IntKind.i64 (IntKind.wrap
  IntKind.i64 (n2 + IntKind.wrap IntKind.i64 n6))) h)) : unitAt P f_math_bits_Len64 7 [0, 2] [Value.int IntKind.u64 n1, Value.int IntKind.i64 n2] h Q := unit_ok (n := 400) (ann := annOf [(4,
  [0, 2]), (7, [0, 2])]) (Eq.mp (by kernel_rfl) H)
theorem r_strconv_bool2_int {b1 : Bool} {h : AW} {Q : Value → AW → Prop} (H : bC b1 (Q (Value.int IntKind.i64 1) h) (Q (Value.int IntKind.i64 0) h)) : EvQ P f_strconv_bool2_int [Value.bool b1] h Q := fn_ok
  (n := 400) (ann := annOf []) (Eq.mp (by kernel_rfl) H)
theorem r_p_strings_Builder_String {p1 : Option Addr} {h : AW} {Q : Value → AW → Prop} (H : aP p1 fun m2 m3 => oB (AW.rd h m2 (m3 + 1)) fun v4 => vSl v4 fun p5 m6 m7 => oB (sdataB [Value.slice p5 m6
  m7]) fun v8 => vPtr v8 fun p9 => aP p1 fun m10 m11 => oB (AW.rd h m10 (m11 + 1)) fun v12 => vSl v12 fun p13 m14 m15 => oP (ustrB P h (Array.mk [ty_p_uint8, ty_int]) [Value.pointer p9,
  Value.int IntKind.i64 (↑m14 : Int)]) fun v16 h17 => vStr v16 fun s18 => Q (Value.string s18) h17) : EvQ P f_p_strings_Builder_String [Value.pointer p1] h Q := fn_ok (n := 400) (ann := annOf []) (Eq.mp
  (by kernel_rfl) H)
end Go.Proofs.YtgdkekdedgkglaaDoor
end
