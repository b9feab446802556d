/- A deterministic heap for the model, proved sound, and walks of the program over it: part 11. No condition. -/
import Derived.Test.YtgdkekdedgkglaaDoorAb1
import Derived.Test.YtgdkekdedgkglaaDoorAb2
import Derived.Test.YtgdkekdedgkglaaDoorAb3
import Derived.Test.YtgdkekdedgkglaaDoorAb4
import Derived.Test.YtgdkekdedgkglaaDoorAb6
import Derived.Test.YtgdkekdedgkglaaDoorCd2
import Derived.Test.YtgdkekdedgkglaaDoorCd3
import Derived.Test.YtgdkekdedgkglaaDoorAb5
import Derived.Test.YtgdkekdedgkglaaDoorCd4
import Derived.Test.YtgdkekdedgkglaaDoorCd1
set_option linter.unusedVariables false
set_option linter.unusedSimpArgs false
set_option linter.unusedSectionVars false
section
/- Reading lines of words: the walk. -/
namespace Go.Proofs.YtgdkekdedgkglaaDoor
open Go.Abs Go.Abs.Fo
set_option maxRecDepth 100000
attribute [local irreducible] unitAt EvQ
variable {h : AW} {μ : Paint} {ρ : Store} {Q : Value → AW → Prop}

abbrev ptr0 (p : Nat) : Value := .pointer (some ⟨p, 0, none⟩)
/-- What stands by a reader of lines. -/
abbrev stR (pf pn pb pm pa pl : Nat) (a : Option Addr) (N cap : Nat) (s : PS) : List Res :=
  [.var pf [.func (.func f_action_Parse_fn2) ⟨[]⟩ ⟨[ptr0 pb, ptr0 pn, ptr0 pa, ptr0 pm, ptr0 pf]⟩], .var pn [.func (.func f_action_Parse_fn1) ⟨[]⟩ ⟨[ptr0 pa, ptr0 pl]⟩], .var pb [.int .i64 s.err, .int .i64 s.bad], .var pm [.int .i64 (s.many : Int)], .var pa [.int .i64 (s.i : Int)], .var pl [.slice a N cap]]
/-- A statement joins the others. -/
theorem app_x (O : Own h μ ρ) {ρ1 : Store} {cx co cm : Nat} {ns : List Nat} {px : Nat} {op n : Int} {aa ba oa : Option Addr} {an ac bn bc oc : Nat} {cells : List Value} {vs : List (Option Addr × Nat × Nat × List Value)} {rs : List Res} {facc : F} {deep pf pn pb pm pa : Nat}
    (W : Pcs ρ1 ρ (cx :: co :: cm :: ns) (.var px [.int .i64 op, .slice aa an ac, .int .i64 n, .slice ba bn bc] :: .sl oa oc 4 cells :: .many vs :: rs)) (hcx : ρ1 cx = none) (hlen : cells.length = facc.len * 4) (hsm : facc.len ≤ 1000000)
    (H : ∀ h' μ' ρ' oa' oc', Own h' μ' ρ' → Pcs ρ1 ρ' (co :: cm :: ns) (.sl oa' oc' 4 (cells ++ [.int .i64 op, .slice aa an ac, .int .i64 n, .slice ba bn bc]) :: .many vs :: rs) →
      unitAt P f_action_Parse_fn2 2 [0, 1, 2, 3, 4, 5, 8] [.int .i64 (deep : Int), ptr0 pb, ptr0 pn, ptr0 pa, ptr0 pm, ptr0 pf, .slice oa' (facc.len + 1) oc'] h' Q) :
    oB (AW.rd h px 0) fun v75 => vInt IntKind.i64 v75 fun n76 => oB (AW.rd h px 1) fun v77 => vSl v77 fun p78 m79 m80 => oB (AW.rd h px 2) fun v81 => vInt IntKind.i64 v81 fun n82 => oB (AW.rd h
      px 3) fun v83 => vSl v83 fun p84 m85 m86 => oP (appendB P (AW.addVar h [Value.int IntKind.i64 n76, Value.slice p78 m79 m80, Value.int IntKind.i64 n82, Value.slice p84 m85 m86])
      (Array.mk [ty_sl_api_Stmt, ty_sl_api_Stmt]) [Value.slice oa facc.len oc, Value.slice (some (Addr.mk (AW.next h) 0 none)) 1 1]) fun v87 h88 => vSl v87 fun p89 m90 m91 => unitAt P
      f_action_Parse_fn2 2 [0, 1, 2, 3, 4, 5, 8] [Value.int IntKind.i64 (deep : Int), Value.pointer (some (Addr.mk pb 0 none)), Value.pointer (some (Addr.mk pn 0 none)), Value.pointer (some
      (Addr.mk pa 0 none)), Value.pointer (some (Addr.mk pm 0 none)), Value.pointer (some (Addr.mk pf 0 none)), Value.slice p89 m90 m91] h88 Q := by
  refine w_rd O W 0 rfl rfl ?_
  simp only [oB_some, bC_true, bC_false, vInt_int, vBool_bool, vStr_string, vPtr_pointer, vSl_slice, vMap_map, vFun_func, vAgg_agg, vTup_tuple, vIfc_nil, vIfc_iface, lC_cons, lN_nil, aP_some, shO_none, shO_some, Option.isNone_none, Option.isNone_some, Bool.not_true, Bool.not_false]
  refine w_rd O W 0 rfl rfl ?_
  simp only [oB_some, bC_true, bC_false, vInt_int, vBool_bool, vStr_string, vPtr_pointer, vSl_slice, vMap_map, vFun_func, vAgg_agg, vTup_tuple, vIfc_nil, vIfc_iface, lC_cons, lN_nil, aP_some, shO_none, shO_some, Option.isNone_none, Option.isNone_some, Bool.not_true, Bool.not_false]
  refine w_rd O W 0 rfl rfl ?_
  simp only [oB_some, bC_true, bC_false, vInt_int, vBool_bool, vStr_string, vPtr_pointer, vSl_slice, vMap_map, vFun_func, vAgg_agg, vTup_tuple, vIfc_nil, vIfc_iface, lC_cons, lN_nil, aP_some, shO_none, shO_some, Option.isNone_none, Option.isNone_some, Bool.not_true, Bool.not_false]
  refine w_rd O W 0 rfl rfl ?_
  simp only [oB_some, bC_true, bC_false, vInt_int, vBool_bool, vStr_string, vPtr_pointer, vSl_slice, vMap_map, vFun_func, vAgg_agg, vTup_tuple, vIfc_nil, vIfc_iface, lC_cons, lN_nil, aP_some, shO_none, shO_some, Option.isNone_none, Option.isNone_some, Bool.not_true, Bool.not_false]
  obtain ⟨μ1, ρ2, c1, O1, W1, hc1⟩ := w_block O W [.int .i64 op, .slice aa an ac, .int .i64 n, .slice ba bn bc] (n := 1) (sz := 4) rfl rfl
  refine w_app (P := P) O1 W1 2 (n := facc.len) (m := 1) ti_ty_sl_api_Stmt ti_ty_api_Stmt (by decide) rfl hlen (w_sl O1 W1 0 rfl) rfl rfl (by omega) (by omega) fun oa' oc' h2 μ2 ρ3 O2 W2 => ?_
  simp only [oB_some, bC_true, bC_false, vInt_int, vBool_bool, vStr_string, vPtr_pointer, vSl_slice, vMap_map, vFun_func, vAgg_agg, vTup_tuple, vIfc_nil, vIfc_iface, lC_cons, lN_nil, aP_some, shO_none, shO_some, Option.isNone_none, Option.isNone_some, Bool.not_true, Bool.not_false]
  exact H _ _ _ _ _ O2 ((W2.tail hc1).tail hcx)

theorem bd_nil {n deep : Nat} {s : PS} (he : s.err = 0) : bd (n + 1) deep [] s = (.nil, [], if deep > 0 then { s with err := 131, bad := s.i } else s) := by
  rw [bd, if_neg (by simp [he])]
theorem bd_end {n deep : Nat} {r : List Line} {s : PS} (he : s.err = 0) : bd (n + 1) deep ([wEnd] :: r) s = (.nil, r, if deep = 0 then { s with i := s.i + 1, err := 131, bad := s.i } else { s with i := s.i + 1 }) := by
  rw [bd, if_neg (by simp [he])]
  simp only
  rw [if_pos trivial]
theorem bd_bad {n deep : Nat} {l : Line} {r : List Line} {s : PS} (he : s.err = 0) (hl : l ≠ [wEnd]) (hx : (stmtM l).ok = false) : bd (n + 1) deep (l :: r) s = (.cons (stmtM l).op (stmtM l).args (stmtM l).n .nil .nil, r, ⟨s.i + 1, s.many + 1, 130, s.i⟩) := by
  rw [bd, if_neg (by simp [he])]
  simp only
  rw [if_neg hl, if_pos hx]
theorem bd_long {n deep : Nat} {l : Line} {r : List Line} {s : PS} (he : s.err = 0) (hl : l ≠ [wEnd]) (hx : (stmtM l).ok = true) (hm : s.many + 1 > 256) : bd (n + 1) deep (l :: r) s = (.cons (stmtM l).op (stmtM l).args (stmtM l).n .nil .nil, r, ⟨s.i + 1, s.many + 1, 3, s.i⟩) := by
  rw [bd, if_neg (by simp [he])]
  simp only
  rw [if_neg hl, if_neg (by simp [hx]), if_pos hm]
theorem bd_deep {n : Nat} {l : Line} {r : List Line} {s : PS} (he : s.err = 0) (hl : l ≠ [wEnd]) (hx : (stmtM l).ok = true) (hm : ¬ s.many + 1 > 256) (ho : opensM (stmtM l).op = true) : bd (n + 1) 8 (l :: r) s = (.cons (stmtM l).op (stmtM l).args (stmtM l).n .nil .nil, r, ⟨s.i + 1, s.many + 1, 132, s.i⟩) := by
  rw [bd, if_neg (by simp [he])]
  simp only
  rw [if_neg hl, if_neg (by simp [hx]), if_neg hm, if_pos ho, if_pos trivial]
theorem bd_open {n deep : Nat} {l : Line} {r : List Line} {s : PS} (he : s.err = 0) (hl : l ≠ [wEnd]) (hx : (stmtM l).ok = true) (hm : ¬ s.many + 1 > 256) (ho : opensM (stmtM l).op = true) (hd : deep ≠ 8) :
    bd (n + 1) deep (l :: r) s = (.cons (stmtM l).op (stmtM l).args (stmtM l).n (bd n (deep + 1) r ⟨s.i + 1, s.many + 1, 0, s.bad⟩).1 (bd n deep (bd n (deep + 1) r ⟨s.i + 1, s.many + 1, 0, s.bad⟩).2.1 (bd n (deep + 1) r ⟨s.i + 1, s.many + 1, 0, s.bad⟩).2.2).1,
      (bd n deep (bd n (deep + 1) r ⟨s.i + 1, s.many + 1, 0, s.bad⟩).2.1 (bd n (deep + 1) r ⟨s.i + 1, s.many + 1, 0, s.bad⟩).2.2).2.1, (bd n deep (bd n (deep + 1) r ⟨s.i + 1, s.many + 1, 0, s.bad⟩).2.1 (bd n (deep + 1) r ⟨s.i + 1, s.many + 1, 0, s.bad⟩).2.2).2.2) := by
  rw [bd, if_neg (by simp [he])]
  simp only
  rw [if_neg hl, if_neg (by simp [hx]), if_neg hm, if_pos ho, if_neg hd]
theorem bd_plain {n deep : Nat} {l : Line} {r : List Line} {s : PS} (he : s.err = 0) (hl : l ≠ [wEnd]) (hx : (stmtM l).ok = true) (hm : ¬ s.many + 1 > 256) (ho : opensM (stmtM l).op = false) :
    bd (n + 1) deep (l :: r) s = (.cons (stmtM l).op (stmtM l).args (stmtM l).n .nil (bd n deep r ⟨s.i + 1, s.many + 1, 0, s.bad⟩).1, (bd n deep r ⟨s.i + 1, s.many + 1, 0, s.bad⟩).2.1, (bd n deep r ⟨s.i + 1, s.many + 1, 0, s.bad⟩).2.2) := by
  rw [bd, if_neg (by simp [he])]
  simp only
  rw [if_neg hl, if_neg (by simp [hx]), if_neg hm, if_neg (by simp [ho])]
theorem back1 {i : Nat} (h : i ≤ 1000000) : IntKind.wrap .i64 (((i + 1 : Nat) : Int) - 1) = (i : Int) := by
  rw [wrap_sm (n := ((i + 1 : Nat) : Int) - 1) (by omega) (by omega)]; omega
theorem body_loop {G : Str → Prop} (T : Tbs G ρ) {ps : List Wds} {a : Option Addr} {cap : Nat} (X : Lns ρ ps a) (M : Mild (ps.map Wds.x)) (hG : ∀ p, p ∈ ps → ∀ w s, p.x = [w, s] → opOf w = 10 → G s) {pf pn pb pm pa pl cm : Nat} {ns : List Nat} (hns : ∀ c, c ∈ cm :: ns → ρ c = none) :
    ∀ (n deep : Nat) (r : List Line) (s : PS) {h : AW} {μ : Paint} {ρ1 ρ' : Store} {co : Nat} {oa : Option Addr} {oc : Nat} {cells : List Value} {vs : List (Option Addr × Nat × Nat × List Value)} {facc : F} {Q : Value → AW → Prop},
      Own h μ ρ' → Pcs ρ1 ρ' (co :: cm :: ns) (.sl oa oc 4 cells :: .many vs :: stR pf pn pb pm pa pl a ps.length cap s) → ρ1 co = none → Fra [] ρ ρ1 →
      r = (ps.map Wds.x).drop s.i → s.i ≤ ps.length → r.length < n → s.many ≤ s.i → deep ≤ 8 → facc.len ≤ s.i → Lies (Vm vs) facc cells →
      (∀ h' μ' ρ2 co' oa' oc' cells' vs', Own h' μ' ρ2 → Pcs ρ1 ρ2 (co' :: cm :: ns) (.sl oa' oc' 4 cells' :: .many vs' :: stR pf pn pb pm pa pl a ps.length cap (bd n deep r s).2.2) → ρ1 co' = none →
        Lies (Vm vs') (facc.app (bd n deep r s).1) cells' → (∀ x, x ∈ vs → x ∈ vs') → Q (.slice oa' (facc.app (bd n deep r s).1).len oc') h') →
      unitAt P f_action_Parse_fn2 2 [0, 1, 2, 3, 4, 5, 8] [.int .i64 (deep : Int), ptr0 pb, ptr0 pn, ptr0 pa, ptr0 pm, ptr0 pf, .slice oa facc.len oc] h Q := by
  intro n
  induction n with
  | zero => intro deep r s h μ ρ1 ρ' co oa oc cells vs facc Q O W hco Fr hr hi hn; omega
  | succ n ih =>
    intro deep r s h μ ρ1 ρ' co oa oc cells vs facc Q O W hco Fr hr hi hn hmany hd hfl L hq
    have hps : ps.length ≤ 262144 := by have := M.len; simpa using this
    have hnm : ∀ c, c ∈ co :: cm :: ns → ρ c = none := fun c hc => by
      rcases List.mem_cons.1 hc with rfl | hc
      · exact Fr.none0 hco
      · exact hns c hc
    refine r_action_Parse_fn2_2 ?_
    repeat (first | refine ⟨rfl, ?_⟩ | refine ⟨trivial, ?_⟩ | simp only [oB_some, bC_true, bC_false, vInt_int, vBool_bool, vStr_string, vPtr_pointer, vSl_slice, vMap_map, vFun_func, vAgg_agg, vTup_tuple, vIfc_nil, vIfc_iface, lC_cons, lN_nil, aP_some, shO_none, shO_some, Option.isNone_none, Option.isNone_some, Bool.not_true, Bool.not_false] | refine w_rd (by assumption) (by assumption) 0 (by rfl) (by rfl) ?_ | refine w_rd (by assumption) (by assumption) 1 (by rfl) (by rfl) ?_ | refine w_rd (by assumption) (by assumption) 2 (by rfl) (by rfl) ?_ | refine w_rd (by assumption) (by assumption) 3 (by rfl) (by rfl) ?_ | refine w_rd (by assumption) (by assumption) 4 (by rfl) (by rfl) ?_ | refine w_rd (by assumption) (by assumption) 5 (by rfl) (by rfl) ?_ | refine w_rd (by assumption) (by assumption) 6 (by rfl) (by rfl) ?_ | refine w_rd (by assumption) (by assumption) 7 (by rfl) (by rfl) ?_ | refine w_wrL (by assumption) (by assumption) 0 (by rfl) (Nat.le_of_ble_eq_true (by rfl)) (by rfl) fun h ρz O W => ?_ | refine w_wrL (by assumption) (by assumption) 1 (by rfl) (Nat.le_of_ble_eq_true (by rfl)) (by rfl) fun h ρz O W => ?_ | refine w_wrL (by assumption) (by assumption) 2 (by rfl) (Nat.le_of_ble_eq_true (by rfl)) (by rfl) fun h ρz O W => ?_ | refine w_wrL (by assumption) (by assumption) 3 (by rfl) (Nat.le_of_ble_eq_true (by rfl)) (by rfl) fun h ρz O W => ?_ | refine w_wrL (by assumption) (by assumption) 4 (by rfl) (Nat.le_of_ble_eq_true (by rfl)) (by rfl) fun h ρz O W => ?_ | refine w_wrL (by assumption) (by assumption) 5 (by rfl) (Nat.le_of_ble_eq_true (by rfl)) (by rfl) fun h ρz O W => ?_ | refine w_wrL (by assumption) (by assumption) 6 (by rfl) (Nat.le_of_ble_eq_true (by rfl)) (by rfl) fun h ρz O W => ?_ | refine w_wrL (by assumption) (by assumption) 7 (by rfl) (Nat.le_of_ble_eq_true (by rfl)) (by rfl) fun h ρz O W => ?_ | refine w_wr (by assumption) (by assumption) 0 (by rfl) (Nat.le_of_ble_eq_true (by rfl)) (by rfl) fun h ρz O W => ?_ | refine w_wr (by assumption) (by assumption) 1 (by rfl) (Nat.le_of_ble_eq_true (by rfl)) (by rfl) fun h ρz O W => ?_ | refine w_wr (by assumption) (by assumption) 2 (by rfl) (Nat.le_of_ble_eq_true (by rfl)) (by rfl) fun h ρz O W => ?_ | refine w_wr (by assumption) (by assumption) 3 (by rfl) (Nat.le_of_ble_eq_true (by rfl)) (by rfl) fun h ρz O W => ?_ | refine w_wr (by assumption) (by assumption) 4 (by rfl) (Nat.le_of_ble_eq_true (by rfl)) (by rfl) fun h ρz O W => ?_ | refine w_wr (by assumption) (by assumption) 5 (by rfl) (Nat.le_of_ble_eq_true (by rfl)) (by rfl) fun h ρz O W => ?_ | refine w_wr (by assumption) (by assumption) 6 (by rfl) (Nat.le_of_ble_eq_true (by rfl)) (by rfl) fun h ρz O W => ?_ | refine w_wr (by assumption) (by assumption) 7 (by rfl) (Nat.le_of_ble_eq_true (by rfl)) (by rfl) fun h ρz O W => ?_)
    refine bC_iff (fun e => ?_) (fun e => ?_)
    rotate_left
    · have ne : s.err ≠ 0 := neI e
      have := hq h μ ρ' co oa oc cells vs O (by rw [bd_err ne]; exact W) hco (by rw [bd_err ne, F.app_nil]; exact L) (fun _ x => x)
      rw [bd_err ne, F.app_nil] at this
      exact this
    have he : s.err = 0 := eqI e
    have hs : (⟨s.i, s.many, 0, s.bad⟩ : PS) = s := by rw [← he]
    replace W : Pcs ρ1 ρ' (co :: cm :: ns) (.sl oa oc 4 cells :: .many vs :: stR pf pn pb pm pa pl a ps.length cap ⟨s.i, s.many, 0, s.bad⟩) := by rw [hs]; exact W
    repeat (first | refine ⟨rfl, ?_⟩ | refine ⟨trivial, ?_⟩ | simp only [oB_some, bC_true, bC_false, vInt_int, vBool_bool, vStr_string, vPtr_pointer, vSl_slice, vMap_map, vFun_func, vAgg_agg, vTup_tuple, vIfc_nil, vIfc_iface, lC_cons, lN_nil, aP_some, shO_none, shO_some, Option.isNone_none, Option.isNone_some, Bool.not_true, Bool.not_false] | refine w_rd (by assumption) (by assumption) 0 (by rfl) (by rfl) ?_ | refine w_rd (by assumption) (by assumption) 1 (by rfl) (by rfl) ?_ | refine w_rd (by assumption) (by assumption) 2 (by rfl) (by rfl) ?_ | refine w_rd (by assumption) (by assumption) 3 (by rfl) (by rfl) ?_ | refine w_rd (by assumption) (by assumption) 4 (by rfl) (by rfl) ?_ | refine w_rd (by assumption) (by assumption) 5 (by rfl) (by rfl) ?_ | refine w_rd (by assumption) (by assumption) 6 (by rfl) (by rfl) ?_ | refine w_rd (by assumption) (by assumption) 7 (by rfl) (by rfl) ?_ | refine w_wrL (by assumption) (by assumption) 0 (by rfl) (Nat.le_of_ble_eq_true (by rfl)) (by rfl) fun h ρz O W => ?_ | refine w_wrL (by assumption) (by assumption) 1 (by rfl) (Nat.le_of_ble_eq_true (by rfl)) (by rfl) fun h ρz O W => ?_ | refine w_wrL (by assumption) (by assumption) 2 (by rfl) (Nat.le_of_ble_eq_true (by rfl)) (by rfl) fun h ρz O W => ?_ | refine w_wrL (by assumption) (by assumption) 3 (by rfl) (Nat.le_of_ble_eq_true (by rfl)) (by rfl) fun h ρz O W => ?_ | refine w_wrL (by assumption) (by assumption) 4 (by rfl) (Nat.le_of_ble_eq_true (by rfl)) (by rfl) fun h ρz O W => ?_ | refine w_wrL (by assumption) (by assumption) 5 (by rfl) (Nat.le_of_ble_eq_true (by rfl)) (by rfl) fun h ρz O W => ?_ | refine w_wrL (by assumption) (by assumption) 6 (by rfl) (Nat.le_of_ble_eq_true (by rfl)) (by rfl) fun h ρz O W => ?_ | refine w_wrL (by assumption) (by assumption) 7 (by rfl) (Nat.le_of_ble_eq_true (by rfl)) (by rfl) fun h ρz O W => ?_ | refine w_wr (by assumption) (by assumption) 0 (by rfl) (Nat.le_of_ble_eq_true (by rfl)) (by rfl) fun h ρz O W => ?_ | refine w_wr (by assumption) (by assumption) 1 (by rfl) (Nat.le_of_ble_eq_true (by rfl)) (by rfl) fun h ρz O W => ?_ | refine w_wr (by assumption) (by assumption) 2 (by rfl) (Nat.le_of_ble_eq_true (by rfl)) (by rfl) fun h ρz O W => ?_ | refine w_wr (by assumption) (by assumption) 3 (by rfl) (Nat.le_of_ble_eq_true (by rfl)) (by rfl) fun h ρz O W => ?_ | refine w_wr (by assumption) (by assumption) 4 (by rfl) (Nat.le_of_ble_eq_true (by rfl)) (by rfl) fun h ρz O W => ?_ | refine w_wr (by assumption) (by assumption) 5 (by rfl) (Nat.le_of_ble_eq_true (by rfl)) (by rfl) fun h ρz O W => ?_ | refine w_wr (by assumption) (by assumption) 6 (by rfl) (Nat.le_of_ble_eq_true (by rfl)) (by rfl) fun h ρz O W => ?_ | refine w_wr (by assumption) (by assumption) 7 (by rfl) (Nat.le_of_ble_eq_true (by rfl)) (by rfl) fun h ρz O W => ?_)
    refine r_action_Parse_fn1 ?_
    repeat (first | refine ⟨rfl, ?_⟩ | refine ⟨trivial, ?_⟩ | simp only [oB_some, bC_true, bC_false, vInt_int, vBool_bool, vStr_string, vPtr_pointer, vSl_slice, vMap_map, vFun_func, vAgg_agg, vTup_tuple, vIfc_nil, vIfc_iface, lC_cons, lN_nil, aP_some, shO_none, shO_some, Option.isNone_none, Option.isNone_some, Bool.not_true, Bool.not_false] | refine w_rd (by assumption) (by assumption) 0 (by rfl) (by rfl) ?_ | refine w_rd (by assumption) (by assumption) 1 (by rfl) (by rfl) ?_ | refine w_rd (by assumption) (by assumption) 2 (by rfl) (by rfl) ?_ | refine w_rd (by assumption) (by assumption) 3 (by rfl) (by rfl) ?_ | refine w_rd (by assumption) (by assumption) 4 (by rfl) (by rfl) ?_ | refine w_rd (by assumption) (by assumption) 5 (by rfl) (by rfl) ?_ | refine w_rd (by assumption) (by assumption) 6 (by rfl) (by rfl) ?_ | refine w_rd (by assumption) (by assumption) 7 (by rfl) (by rfl) ?_ | refine w_wrL (by assumption) (by assumption) 0 (by rfl) (Nat.le_of_ble_eq_true (by rfl)) (by rfl) fun h ρz O W => ?_ | refine w_wrL (by assumption) (by assumption) 1 (by rfl) (Nat.le_of_ble_eq_true (by rfl)) (by rfl) fun h ρz O W => ?_ | refine w_wrL (by assumption) (by assumption) 2 (by rfl) (Nat.le_of_ble_eq_true (by rfl)) (by rfl) fun h ρz O W => ?_ | refine w_wrL (by assumption) (by assumption) 3 (by rfl) (Nat.le_of_ble_eq_true (by rfl)) (by rfl) fun h ρz O W => ?_ | refine w_wrL (by assumption) (by assumption) 4 (by rfl) (Nat.le_of_ble_eq_true (by rfl)) (by rfl) fun h ρz O W => ?_ | refine w_wrL (by assumption) (by assumption) 5 (by rfl) (Nat.le_of_ble_eq_true (by rfl)) (by rfl) fun h ρz O W => ?_ | refine w_wrL (by assumption) (by assumption) 6 (by rfl) (Nat.le_of_ble_eq_true (by rfl)) (by rfl) fun h ρz O W => ?_ | refine w_wrL (by assumption) (by assumption) 7 (by rfl) (Nat.le_of_ble_eq_true (by rfl)) (by rfl) fun h ρz O W => ?_ | refine w_wr (by assumption) (by assumption) 0 (by rfl) (Nat.le_of_ble_eq_true (by rfl)) (by rfl) fun h ρz O W => ?_ | refine w_wr (by assumption) (by assumption) 1 (by rfl) (Nat.le_of_ble_eq_true (by rfl)) (by rfl) fun h ρz O W => ?_ | refine w_wr (by assumption) (by assumption) 2 (by rfl) (Nat.le_of_ble_eq_true (by rfl)) (by rfl) fun h ρz O W => ?_ | refine w_wr (by assumption) (by assumption) 3 (by rfl) (Nat.le_of_ble_eq_true (by rfl)) (by rfl) fun h ρz O W => ?_ | refine w_wr (by assumption) (by assumption) 4 (by rfl) (Nat.le_of_ble_eq_true (by rfl)) (by rfl) fun h ρz O W => ?_ | refine w_wr (by assumption) (by assumption) 5 (by rfl) (Nat.le_of_ble_eq_true (by rfl)) (by rfl) fun h ρz O W => ?_ | refine w_wr (by assumption) (by assumption) 6 (by rfl) (Nat.le_of_ble_eq_true (by rfl)) (by rfl) fun h ρz O W => ?_ | refine w_wr (by assumption) (by assumption) 7 (by rfl) (Nat.le_of_ble_eq_true (by rfl)) (by rfl) fun h ρz O W => ?_)
    refine bC_iff (fun e => ?_) (fun e => ?_)
    · have e := eqI e
      have : r = [] := by rw [hr]; exact List.drop_eq_nil_of_le (by simp; omega)
      rw [this, bd_nil he] at hq
      obtain ⟨si, sm, se, sb⟩ := s
      simp only at he
      subst he
      repeat (first | refine ⟨rfl, ?_⟩ | refine ⟨trivial, ?_⟩ | simp only [oB_some, bC_true, bC_false, vInt_int, vBool_bool, vStr_string, vPtr_pointer, vSl_slice, vMap_map, vFun_func, vAgg_agg, vTup_tuple, vIfc_nil, vIfc_iface, lC_cons, lN_nil, aP_some, shO_none, shO_some, Option.isNone_none, Option.isNone_some, Bool.not_true, Bool.not_false] | refine w_rd (by assumption) (by assumption) 0 (by rfl) (by rfl) ?_ | refine w_rd (by assumption) (by assumption) 1 (by rfl) (by rfl) ?_ | refine w_rd (by assumption) (by assumption) 2 (by rfl) (by rfl) ?_ | refine w_rd (by assumption) (by assumption) 3 (by rfl) (by rfl) ?_ | refine w_rd (by assumption) (by assumption) 4 (by rfl) (by rfl) ?_ | refine w_rd (by assumption) (by assumption) 5 (by rfl) (by rfl) ?_ | refine w_rd (by assumption) (by assumption) 6 (by rfl) (by rfl) ?_ | refine w_rd (by assumption) (by assumption) 7 (by rfl) (by rfl) ?_ | refine w_wrL (by assumption) (by assumption) 0 (by rfl) (Nat.le_of_ble_eq_true (by rfl)) (by rfl) fun h ρz O W => ?_ | refine w_wrL (by assumption) (by assumption) 1 (by rfl) (Nat.le_of_ble_eq_true (by rfl)) (by rfl) fun h ρz O W => ?_ | refine w_wrL (by assumption) (by assumption) 2 (by rfl) (Nat.le_of_ble_eq_true (by rfl)) (by rfl) fun h ρz O W => ?_ | refine w_wrL (by assumption) (by assumption) 3 (by rfl) (Nat.le_of_ble_eq_true (by rfl)) (by rfl) fun h ρz O W => ?_ | refine w_wrL (by assumption) (by assumption) 4 (by rfl) (Nat.le_of_ble_eq_true (by rfl)) (by rfl) fun h ρz O W => ?_ | refine w_wrL (by assumption) (by assumption) 5 (by rfl) (Nat.le_of_ble_eq_true (by rfl)) (by rfl) fun h ρz O W => ?_ | refine w_wrL (by assumption) (by assumption) 6 (by rfl) (Nat.le_of_ble_eq_true (by rfl)) (by rfl) fun h ρz O W => ?_ | refine w_wrL (by assumption) (by assumption) 7 (by rfl) (Nat.le_of_ble_eq_true (by rfl)) (by rfl) fun h ρz O W => ?_ | refine w_wr (by assumption) (by assumption) 0 (by rfl) (Nat.le_of_ble_eq_true (by rfl)) (by rfl) fun h ρz O W => ?_ | refine w_wr (by assumption) (by assumption) 1 (by rfl) (Nat.le_of_ble_eq_true (by rfl)) (by rfl) fun h ρz O W => ?_ | refine w_wr (by assumption) (by assumption) 2 (by rfl) (Nat.le_of_ble_eq_true (by rfl)) (by rfl) fun h ρz O W => ?_ | refine w_wr (by assumption) (by assumption) 3 (by rfl) (Nat.le_of_ble_eq_true (by rfl)) (by rfl) fun h ρz O W => ?_ | refine w_wr (by assumption) (by assumption) 4 (by rfl) (Nat.le_of_ble_eq_true (by rfl)) (by rfl) fun h ρz O W => ?_ | refine w_wr (by assumption) (by assumption) 5 (by rfl) (Nat.le_of_ble_eq_true (by rfl)) (by rfl) fun h ρz O W => ?_ | refine w_wr (by assumption) (by assumption) 6 (by rfl) (Nat.le_of_ble_eq_true (by rfl)) (by rfl) fun h ρz O W => ?_ | refine w_wr (by assumption) (by assumption) 7 (by rfl) (Nat.le_of_ble_eq_true (by rfl)) (by rfl) fun h ρz O W => ?_)
      refine bC_iff (fun e2 => ?_) (fun e2 => ?_)
      · have e2 : deep > 0 := by have := of_decide_eq_true e2; omega
        rw [if_pos e2, F.app_nil] at hq
        repeat (first | refine ⟨rfl, ?_⟩ | refine ⟨trivial, ?_⟩ | simp only [oB_some, bC_true, bC_false, vInt_int, vBool_bool, vStr_string, vPtr_pointer, vSl_slice, vMap_map, vFun_func, vAgg_agg, vTup_tuple, vIfc_nil, vIfc_iface, lC_cons, lN_nil, aP_some, shO_none, shO_some, Option.isNone_none, Option.isNone_some, Bool.not_true, Bool.not_false] | refine w_rd (by assumption) (by assumption) 0 (by rfl) (by rfl) ?_ | refine w_rd (by assumption) (by assumption) 1 (by rfl) (by rfl) ?_ | refine w_rd (by assumption) (by assumption) 2 (by rfl) (by rfl) ?_ | refine w_rd (by assumption) (by assumption) 3 (by rfl) (by rfl) ?_ | refine w_rd (by assumption) (by assumption) 4 (by rfl) (by rfl) ?_ | refine w_rd (by assumption) (by assumption) 5 (by rfl) (by rfl) ?_ | refine w_rd (by assumption) (by assumption) 6 (by rfl) (by rfl) ?_ | refine w_rd (by assumption) (by assumption) 7 (by rfl) (by rfl) ?_ | refine w_wrL (by assumption) (by assumption) 0 (by rfl) (Nat.le_of_ble_eq_true (by rfl)) (by rfl) fun h ρz O W => ?_ | refine w_wrL (by assumption) (by assumption) 1 (by rfl) (Nat.le_of_ble_eq_true (by rfl)) (by rfl) fun h ρz O W => ?_ | refine w_wrL (by assumption) (by assumption) 2 (by rfl) (Nat.le_of_ble_eq_true (by rfl)) (by rfl) fun h ρz O W => ?_ | refine w_wrL (by assumption) (by assumption) 3 (by rfl) (Nat.le_of_ble_eq_true (by rfl)) (by rfl) fun h ρz O W => ?_ | refine w_wrL (by assumption) (by assumption) 4 (by rfl) (Nat.le_of_ble_eq_true (by rfl)) (by rfl) fun h ρz O W => ?_ | refine w_wrL (by assumption) (by assumption) 5 (by rfl) (Nat.le_of_ble_eq_true (by rfl)) (by rfl) fun h ρz O W => ?_ | refine w_wrL (by assumption) (by assumption) 6 (by rfl) (Nat.le_of_ble_eq_true (by rfl)) (by rfl) fun h ρz O W => ?_ | refine w_wrL (by assumption) (by assumption) 7 (by rfl) (Nat.le_of_ble_eq_true (by rfl)) (by rfl) fun h ρz O W => ?_ | refine w_wr (by assumption) (by assumption) 0 (by rfl) (Nat.le_of_ble_eq_true (by rfl)) (by rfl) fun h ρz O W => ?_ | refine w_wr (by assumption) (by assumption) 1 (by rfl) (Nat.le_of_ble_eq_true (by rfl)) (by rfl) fun h ρz O W => ?_ | refine w_wr (by assumption) (by assumption) 2 (by rfl) (Nat.le_of_ble_eq_true (by rfl)) (by rfl) fun h ρz O W => ?_ | refine w_wr (by assumption) (by assumption) 3 (by rfl) (Nat.le_of_ble_eq_true (by rfl)) (by rfl) fun h ρz O W => ?_ | refine w_wr (by assumption) (by assumption) 4 (by rfl) (Nat.le_of_ble_eq_true (by rfl)) (by rfl) fun h ρz O W => ?_ | refine w_wr (by assumption) (by assumption) 5 (by rfl) (Nat.le_of_ble_eq_true (by rfl)) (by rfl) fun h ρz O W => ?_ | refine w_wr (by assumption) (by assumption) 6 (by rfl) (Nat.le_of_ble_eq_true (by rfl)) (by rfl) fun h ρz O W => ?_ | refine w_wr (by assumption) (by assumption) 7 (by rfl) (Nat.le_of_ble_eq_true (by rfl)) (by rfl) fun h ρz O W => ?_)
        exact hq _ _ _ _ _ _ _ _ (by assumption) (by assumption) hco L (fun _ x => x)
      · have e2 : ¬ deep > 0 := by have := of_decide_eq_false e2; omega
        rw [if_neg e2, F.app_nil] at hq
        exact hq _ _ _ _ _ _ _ _ O W hco L (fun _ x => x)
    have e := neI e
    have hlt : s.i < ps.length := by omega
    have hlt' : s.i < (ps.map Wds.x).length := by simpa using hlt
    obtain ⟨r', hr1, hr2⟩ : ∃ r', r = (ps[s.i]).x :: r' ∧ r' = (ps.map Wds.x).drop (s.i + 1) := by
      refine ⟨_, ?_, rfl⟩
      rw [hr, List.drop_eq_getElem_cons hlt']; simp
    subst hr1
    simp only [List.length_cons] at hn
    refine w_rd O W 6 rfl rfl ?_
    simp only [oB_some, bC_true, bC_false, vInt_int, vBool_bool, vStr_string, vPtr_pointer, vSl_slice, vMap_map, vFun_func, vAgg_agg, vTup_tuple, vIfc_nil, vIfc_iface, lC_cons, lN_nil, aP_some, shO_none, shO_some, Option.isNone_none, Option.isNone_some, Bool.not_true, Bool.not_false]
    rw [wrapS (by omega)]
    refine w_wr O W 6 (j := 0) rfl (Nat.le_of_ble_eq_true rfl) rfl fun h ρ2 O W => ?_
    repeat (first | refine ⟨rfl, ?_⟩ | refine ⟨trivial, ?_⟩ | simp only [oB_some, bC_true, bC_false, vInt_int, vBool_bool, vStr_string, vPtr_pointer, vSl_slice, vMap_map, vFun_func, vAgg_agg, vTup_tuple, vIfc_nil, vIfc_iface, lC_cons, lN_nil, aP_some, shO_none, shO_some, Option.isNone_none, Option.isNone_some, Bool.not_true, Bool.not_false] | refine w_rd (by assumption) (by assumption) 0 (by rfl) (by rfl) ?_ | refine w_rd (by assumption) (by assumption) 1 (by rfl) (by rfl) ?_ | refine w_rd (by assumption) (by assumption) 2 (by rfl) (by rfl) ?_ | refine w_rd (by assumption) (by assumption) 3 (by rfl) (by rfl) ?_ | refine w_rd (by assumption) (by assumption) 4 (by rfl) (by rfl) ?_ | refine w_rd (by assumption) (by assumption) 5 (by rfl) (by rfl) ?_ | refine w_rd (by assumption) (by assumption) 6 (by rfl) (by rfl) ?_ | refine w_rd (by assumption) (by assumption) 7 (by rfl) (by rfl) ?_ | refine w_wrL (by assumption) (by assumption) 0 (by rfl) (Nat.le_of_ble_eq_true (by rfl)) (by rfl) fun h ρz O W => ?_ | refine w_wrL (by assumption) (by assumption) 1 (by rfl) (Nat.le_of_ble_eq_true (by rfl)) (by rfl) fun h ρz O W => ?_ | refine w_wrL (by assumption) (by assumption) 2 (by rfl) (Nat.le_of_ble_eq_true (by rfl)) (by rfl) fun h ρz O W => ?_ | refine w_wrL (by assumption) (by assumption) 3 (by rfl) (Nat.le_of_ble_eq_true (by rfl)) (by rfl) fun h ρz O W => ?_ | refine w_wrL (by assumption) (by assumption) 4 (by rfl) (Nat.le_of_ble_eq_true (by rfl)) (by rfl) fun h ρz O W => ?_ | refine w_wrL (by assumption) (by assumption) 5 (by rfl) (Nat.le_of_ble_eq_true (by rfl)) (by rfl) fun h ρz O W => ?_ | refine w_wrL (by assumption) (by assumption) 6 (by rfl) (Nat.le_of_ble_eq_true (by rfl)) (by rfl) fun h ρz O W => ?_ | refine w_wrL (by assumption) (by assumption) 7 (by rfl) (Nat.le_of_ble_eq_true (by rfl)) (by rfl) fun h ρz O W => ?_ | refine w_wr (by assumption) (by assumption) 0 (by rfl) (Nat.le_of_ble_eq_true (by rfl)) (by rfl) fun h ρz O W => ?_ | refine w_wr (by assumption) (by assumption) 1 (by rfl) (Nat.le_of_ble_eq_true (by rfl)) (by rfl) fun h ρz O W => ?_ | refine w_wr (by assumption) (by assumption) 2 (by rfl) (Nat.le_of_ble_eq_true (by rfl)) (by rfl) fun h ρz O W => ?_ | refine w_wr (by assumption) (by assumption) 3 (by rfl) (Nat.le_of_ble_eq_true (by rfl)) (by rfl) fun h ρz O W => ?_ | refine w_wr (by assumption) (by assumption) 4 (by rfl) (Nat.le_of_ble_eq_true (by rfl)) (by rfl) fun h ρz O W => ?_ | refine w_wr (by assumption) (by assumption) 5 (by rfl) (Nat.le_of_ble_eq_true (by rfl)) (by rfl) fun h ρz O W => ?_ | refine w_wr (by assumption) (by assumption) 6 (by rfl) (Nat.le_of_ble_eq_true (by rfl)) (by rfl) fun h ρz O W => ?_ | refine w_wr (by assumption) (by assumption) 7 (by rfl) (Nat.le_of_ble_eq_true (by rfl)) (by rfl) fun h ρz O W => ?_)
    rw [back1 (by omega)]
    have F2 : Fra [] ρ ρ2 := Fr.via W.fra hnm
    refine ln_at O (X.keep F2) rfl rfl hlt fun V => ?_
    have hcap := X.caps _ (List.getElem_mem hlt)
    have hlen : (ps[s.i]).x.length ≤ 262144 := M.wds _ (List.mem_map_of_mem (List.getElem_mem hlt))
    have tail : (ps[s.i]).x ≠ [wEnd] →
      EvQ P f_action_stmt [Value.slice (ps[s.i]).a ps[s.i].x.length ps[s.i].cap] h fun v43 h44 => vTup v43 fun l45 => lC l45 fun v46 l47 => vAgg v46 fun l48 => lC l48 fun v49 l50 => vInt IntKind.i64 v49 fun n51 => lC l50
      fun v52 l53 => vSl v52 fun p54 m55 m56 => lC l53 fun v57 l58 => vInt IntKind.i64 v57 fun n59 => lC l58 fun v60 l61 => vSl v60 fun p62 m63 m64 => lN l61 (lC l47 fun v65 l66 => vBool v65
      fun b67 => lN l66 (oB (AW.wrL (AW.addVar h44 [Value.int IntKind.i64 0, Value.slice none 0 0, Value.int IntKind.i64 0, Value.slice none 0 0]) (AW.next h44) 0 [Value.int IntKind.i64 n51,
      Value.slice p54 m55 m56, Value.int IntKind.i64 n59, Value.slice p62 m63 m64]) fun h68 => oB (AW.rd h68 pm 0) fun v69 => vInt IntKind.i64 v69 fun n70 => oB (AW.wr h68 pm 0 (Value.int
      IntKind.i64 (IntKind.wrap IntKind.i64 (n70 + 1)))) fun h71 => bC (!b67) (oB (AW.rd h71 pa 0) fun v72 => vInt IntKind.i64 v72 fun n73 => oB (AW.wrL h71 pb 0 [Value.int IntKind.i64 130,
      Value.int IntKind.i64 (IntKind.wrap IntKind.i64 (n73 - 1))]) fun h74 => oB (AW.rd h74 (AW.next h44) 0) fun v75 => vInt IntKind.i64 v75 fun n76 => oB (AW.rd h74 (AW.next h44) 1) fun v77
      => vSl v77 fun p78 m79 m80 => oB (AW.rd h74 (AW.next h44) 2) fun v81 => vInt IntKind.i64 v81 fun n82 => oB (AW.rd h74 (AW.next h44) 3) fun v83 => vSl v83 fun p84 m85 m86 => oP (appendB
      P (AW.addVar h74 [Value.int IntKind.i64 n76, Value.slice p78 m79 m80, Value.int IntKind.i64 n82, Value.slice p84 m85 m86]) (Array.mk [ty_sl_api_Stmt, ty_sl_api_Stmt]) [Value.slice oa
      facc.len oc, Value.slice (some (Addr.mk (AW.next h74) 0 none)) 1 1]) fun v87 h88 => vSl v87 fun p89 m90 m91 => unitAt P f_action_Parse_fn2 2 [0, 1, 2, 3, 4, 5, 8] [Value.int
      IntKind.i64 (deep : Int), Value.pointer (some (Addr.mk pb 0 none)), Value.pointer (some (Addr.mk pn 0 none)), Value.pointer (some (Addr.mk pa 0 none)), Value.pointer (some (Addr.mk pm
      0 none)), Value.pointer (some (Addr.mk pf 0 none)), Value.slice p89 m90 m91] h88 Q) (oB (AW.rd h71 pm 0) fun v92 => vInt IntKind.i64 v92 fun n93 => bC (decide (n93 > 256)) (oB (AW.rd
      h71 pa 0) fun v94 => vInt IntKind.i64 v94 fun n95 => oB (AW.wrL h71 pb 0 [Value.int IntKind.i64 3, Value.int IntKind.i64 (IntKind.wrap IntKind.i64 (n95 - 1))]) fun h96 => oB (AW.rd h96
      (AW.next h44) 0) fun v97 => vInt IntKind.i64 v97 fun n98 => oB (AW.rd h96 (AW.next h44) 1) fun v99 => vSl v99 fun p100 m101 m102 => oB (AW.rd h96 (AW.next h44) 2) fun v103 => vInt
      IntKind.i64 v103 fun n104 => oB (AW.rd h96 (AW.next h44) 3) fun v105 => vSl v105 fun p106 m107 m108 => oP (appendB P (AW.addVar h96 [Value.int IntKind.i64 n98, Value.slice p100 m101
      m102, Value.int IntKind.i64 n104, Value.slice p106 m107 m108]) (Array.mk [ty_sl_api_Stmt, ty_sl_api_Stmt]) [Value.slice oa facc.len oc, Value.slice (some (Addr.mk (AW.next h96) 0
      none)) 1 1]) fun v109 h110 => vSl v109 fun p111 m112 m113 => unitAt P f_action_Parse_fn2 2 [0, 1, 2, 3, 4, 5, 8] [Value.int IntKind.i64 (deep : Int), Value.pointer (some (Addr.mk pb 0
      none)), Value.pointer (some (Addr.mk pn 0 none)), Value.pointer (some (Addr.mk pa 0 none)), Value.pointer (some (Addr.mk pm 0 none)), Value.pointer (some (Addr.mk pf 0 none)),
      Value.slice p111 m112 m113] h110 Q) (oB (AW.rd h71 (AW.next h44) 0) fun v114 => vInt IntKind.i64 v114 fun n115 => EvQ P f_action_opens [Value.int IntKind.i64 n115] h71 fun v116 h117 =>
      vBool v116 fun b118 => bC b118 (bC ((deep : Int) == 8) (oB (AW.rd h117 pa 0) fun v119 => vInt IntKind.i64 v119 fun n120 => oB (AW.wrL h117 pb 0 [Value.int IntKind.i64 132, Value.int
      IntKind.i64 (IntKind.wrap IntKind.i64 (n120 - 1))]) fun h121 => oB (AW.rd h121 (AW.next h44) 0) fun v122 => vInt IntKind.i64 v122 fun n123 => oB (AW.rd h121 (AW.next h44) 1) fun v124
      => vSl v124 fun p125 m126 m127 => oB (AW.rd h121 (AW.next h44) 2) fun v128 => vInt IntKind.i64 v128 fun n129 => oB (AW.rd h121 (AW.next h44) 3) fun v130 => vSl v130 fun p131 m132 m133
      => oP (appendB P (AW.addVar h121 [Value.int IntKind.i64 n123, Value.slice p125 m126 m127, Value.int IntKind.i64 n129, Value.slice p131 m132 m133]) (Array.mk [ty_sl_api_Stmt,
      ty_sl_api_Stmt]) [Value.slice oa facc.len oc, Value.slice (some (Addr.mk (AW.next h121) 0 none)) 1 1]) fun v134 h135 => vSl v134 fun p136 m137 m138 => unitAt P f_action_Parse_fn2 2 [0,
      1, 2, 3, 4, 5, 8] [Value.int IntKind.i64 (deep : Int), Value.pointer (some (Addr.mk pb 0 none)), Value.pointer (some (Addr.mk pn 0 none)), Value.pointer (some (Addr.mk pa 0 none)),
      Value.pointer (some (Addr.mk pm 0 none)), Value.pointer (some (Addr.mk pf 0 none)), Value.slice p136 m137 m138] h135 Q) (oB (AW.rd h117 (AW.next h44) 0) fun v139 => vInt IntKind.i64
      v139 fun n140 => EvQ P f_action_opens [Value.int IntKind.i64 n140] h117 fun v141 h142 => vBool v141 fun b143 => bC b143 (oB (AW.rd h142 pf 0) fun v144 => vFun v144 fun m145 l146 l147
      => EvQ P m145 (l146 ++ Value.int IntKind.i64 (IntKind.wrap IntKind.i64 ((deep : Int) + 1)) :: l147) h142 fun v148 h149 => vSl v148 fun p150 m151 m152 => oB (AW.wr h149 (AW.next h44) 3
      (Value.slice p150 m151 m152)) fun h153 => oB (AW.rd h153 (AW.next h44) 0) fun v154 => vInt IntKind.i64 v154 fun n155 => oB (AW.rd h153 (AW.next h44) 1) fun v156 => vSl v156 fun p157
      m158 m159 => oB (AW.rd h153 (AW.next h44) 2) fun v160 => vInt IntKind.i64 v160 fun n161 => oB (AW.rd h153 (AW.next h44) 3) fun v162 => vSl v162 fun p163 m164 m165 => oP (appendB P
      (AW.addVar h153 [Value.int IntKind.i64 n155, Value.slice p157 m158 m159, Value.int IntKind.i64 n161, Value.slice p163 m164 m165]) (Array.mk [ty_sl_api_Stmt, ty_sl_api_Stmt])
      [Value.slice oa facc.len oc, Value.slice (some (Addr.mk (AW.next h153) 0 none)) 1 1]) fun v166 h167 => vSl v166 fun p168 m169 m170 => unitAt P f_action_Parse_fn2 2 [0, 1, 2, 3, 4, 5,
      8] [Value.int IntKind.i64 (deep : Int), Value.pointer (some (Addr.mk pb 0 none)), Value.pointer (some (Addr.mk pn 0 none)), Value.pointer (some (Addr.mk pa 0 none)), Value.pointer
      (some (Addr.mk pm 0 none)), Value.pointer (some (Addr.mk pf 0 none)), Value.slice p168 m169 m170] h167 Q) (oB (AW.rd h142 (AW.next h44) 0) fun v171 => vInt IntKind.i64 v171 fun n172 =>
      oB (AW.rd h142 (AW.next h44) 1) fun v173 => vSl v173 fun p174 m175 m176 => oB (AW.rd h142 (AW.next h44) 2) fun v177 => vInt IntKind.i64 v177 fun n178 => oB (AW.rd h142 (AW.next h44) 3)
      fun v179 => vSl v179 fun p180 m181 m182 => oP (appendB P (AW.addVar h142 [Value.int IntKind.i64 n172, Value.slice p174 m175 m176, Value.int IntKind.i64 n178, Value.slice p180 m181
      m182]) (Array.mk [ty_sl_api_Stmt, ty_sl_api_Stmt]) [Value.slice oa facc.len oc, Value.slice (some (Addr.mk (AW.next h142) 0 none)) 1 1]) fun v183 h184 => vSl v183 fun p185 m186 m187 =>
      unitAt P f_action_Parse_fn2 2 [0, 1, 2, 3, 4, 5, 8] [Value.int IntKind.i64 (deep : Int), Value.pointer (some (Addr.mk pb 0 none)), Value.pointer (some (Addr.mk pn 0 none)),
      Value.pointer (some (Addr.mk pa 0 none)), Value.pointer (some (Addr.mk pm 0 none)), Value.pointer (some (Addr.mk pf 0 none)), Value.slice p185 m186 m187] h184 Q))) (oB (AW.rd h117
      (AW.next h44) 0) fun v188 => vInt IntKind.i64 v188 fun n189 => EvQ P f_action_opens [Value.int IntKind.i64 n189] h117 fun v190 h191 => vBool v190 fun b192 => bC b192 (oB (AW.rd h191 pf
      0) fun v193 => vFun v193 fun m194 l195 l196 => EvQ P m194 (l195 ++ Value.int IntKind.i64 (IntKind.wrap IntKind.i64 ((deep : Int) + 1)) :: l196) h191 fun v197 h198 => vSl v197 fun p199
      m200 m201 => oB (AW.wr h198 (AW.next h44) 3 (Value.slice p199 m200 m201)) fun h202 => oB (AW.rd h202 (AW.next h44) 0) fun v203 => vInt IntKind.i64 v203 fun n204 => oB (AW.rd h202
      (AW.next h44) 1) fun v205 => vSl v205 fun p206 m207 m208 => oB (AW.rd h202 (AW.next h44) 2) fun v209 => vInt IntKind.i64 v209 fun n210 => oB (AW.rd h202 (AW.next h44) 3) fun v211 =>
      vSl v211 fun p212 m213 m214 => oP (appendB P (AW.addVar h202 [Value.int IntKind.i64 n204, Value.slice p206 m207 m208, Value.int IntKind.i64 n210, Value.slice p212 m213 m214]) (Array.mk
      [ty_sl_api_Stmt, ty_sl_api_Stmt]) [Value.slice oa facc.len oc, Value.slice (some (Addr.mk (AW.next h202) 0 none)) 1 1]) fun v215 h216 => vSl v215 fun p217 m218 m219 => unitAt P
      f_action_Parse_fn2 2 [0, 1, 2, 3, 4, 5, 8] [Value.int IntKind.i64 (deep : Int), Value.pointer (some (Addr.mk pb 0 none)), Value.pointer (some (Addr.mk pn 0 none)), Value.pointer (some
      (Addr.mk pa 0 none)), Value.pointer (some (Addr.mk pm 0 none)), Value.pointer (some (Addr.mk pf 0 none)), Value.slice p217 m218 m219] h216 Q) (oB (AW.rd h191 (AW.next h44) 0) fun v220
      => vInt IntKind.i64 v220 fun n221 => oB (AW.rd h191 (AW.next h44) 1) fun v222 => vSl v222 fun p223 m224 m225 => oB (AW.rd h191 (AW.next h44) 2) fun v226 => vInt IntKind.i64 v226 fun
      n227 => oB (AW.rd h191 (AW.next h44) 3) fun v228 => vSl v228 fun p229 m230 m231 => oP (appendB P (AW.addVar h191 [Value.int IntKind.i64 n221, Value.slice p223 m224 m225, Value.int
      IntKind.i64 n227, Value.slice p229 m230 m231]) (Array.mk [ty_sl_api_Stmt, ty_sl_api_Stmt]) [Value.slice oa facc.len oc, Value.slice (some (Addr.mk (AW.next h191) 0 none)) 1 1]) fun
      v232 h233 => vSl v232 fun p234 m235 m236 => unitAt P f_action_Parse_fn2 2 [0, 1, 2, 3, 4, 5, 8] [Value.int IntKind.i64 (deep : Int), Value.pointer (some (Addr.mk pb 0 none)),
      Value.pointer (some (Addr.mk pn 0 none)), Value.pointer (some (Addr.mk pa 0 none)), Value.pointer (some (Addr.mk pm 0 none)), Value.pointer (some (Addr.mk pf 0 none)), Value.slice p234
      m235 m236] h233 Q)))))) := by
      intro hne
      refine stmt_ok O (T.keep F2) V hcap (by omega) (hG _ (List.getElem_mem hlt)) fun h2 μ2 ρ3 ca aa ac O2 W2 hca => ?_
      simp only [oB_some, bC_true, bC_false, vInt_int, vBool_bool, vStr_string, vPtr_pointer, vSl_slice, vMap_map, vFun_func, vAgg_agg, vTup_tuple, vIfc_nil, vIfc_iface, lC_cons, lN_nil, aP_some, shO_none, shO_some, Option.isNone_none, Option.isNone_some, Bool.not_true, Bool.not_false]
      have W3 := W.adopt W2 hca
      have hca1 : ρ1 ca = none := W.not0 hca
      obtain ⟨μ3, ρ4, O3, W4⟩ := w_into O2 W3 hca1 1 rfl
      have fin : ∀ {h' : AW} {μ' : Paint} {ρ' : Store} {oa' : Option Addr} {oc' : Nat} {vs2 : List (Option Addr × Nat × Nat × List Value)} {bo : F} {ba : Option Addr} {bc : Nat} {bcells : List Value} (s2 : PS) (r2 : List Line), Own h' μ' ρ' →
          Pcs ρ1 ρ' (co :: cm :: ns) (.sl oa' oc' 4 (cells ++ [.int .i64 (stmtM (ps[s.i]).x).op, .slice aa (stmtM (ps[s.i]).x).args.length ac, .int .i64 (stmtM (ps[s.i]).x).n, .slice ba bo.len bc]) :: .many vs2 :: stR pf pn pb pm pa pl a ps.length cap s2) →
          r2 = (ps.map Wds.x).drop s2.i → s2.i ≤ ps.length → r2.length < n → s2.many ≤ s2.i → s.i + 1 ≤ s2.i → (∀ x, x ∈ ((aa, ac, 1, strs (stmtM (ps[s.i]).x).args) :: vs) → x ∈ vs2) → Vm vs2 ba bcells → Lies (Vm vs2) bo bcells →
          bd (n + 1) deep ((ps[s.i]).x :: r') s = (.cons (stmtM (ps[s.i]).x).op (stmtM (ps[s.i]).x).args (stmtM (ps[s.i]).x).n bo (bd n deep r2 s2).1, (bd n deep r2 s2).2.1, (bd n deep r2 s2).2.2) →
          unitAt P f_action_Parse_fn2 2 [0, 1, 2, 3, 4, 5, 8] [.int .i64 (deep : Int), ptr0 pb, ptr0 pn, ptr0 pa, ptr0 pm, ptr0 pf, .slice oa' (facc.len + 1) oc'] h' Q := by
        intro h' μ' ρ' oa' oc' vs2 bo ba bc bcells s2 r2 O' W' g1 g2 g3 g4 g5 g6 g7 g8 g9
        rw [g9] at hq
        simp only [← F.snoc_app] at hq
        have L2 : Lies (Vm vs2) (facc.snoc (stmtM (ps[s.i]).x).op (stmtM (ps[s.i]).x).args (stmtM (ps[s.i]).x).n bo) (cells ++ [.int .i64 (stmtM (ps[s.i]).x).op, .slice aa (stmtM (ps[s.i]).x).args.length ac, .int .i64 (stmtM (ps[s.i]).x).n, .slice ba bo.len bc]) :=
          (L.mono fun _ _ y => y.more fun z hz => g6 z (by simp [hz])).app ⟨aa, ac, ba, bc, bcells, [], rfl, .inr ⟨ac, 1, g6 _ (by simp)⟩, g7, g8, rfl⟩
        have := ih deep r2 s2 (facc := facc.snoc (stmtM (ps[s.i]).x).op (stmtM (ps[s.i]).x).args (stmtM (ps[s.i]).x).n bo) (Q := Q) O' W' hco Fr g1 g2 g3 g4 hd (by rw [F.snoc_len]; omega) L2
          (fun h3 μ3 ρ3 co3 oa3 oc3 cells3 vs3 a1 a2 a3 a4 a5 => hq h3 μ3 ρ3 co3 oa3 oc3 cells3 vs3 a1 a2 a3 a4 fun z hz => a5 z (g6 z (by simp [hz])))
        rw [F.snoc_len] at this
        exact this
      have hfl2 : facc.len ≤ 1000000 := by omega
      refine w_copy O3 W4 rfl rfl rfl fun h4 μ4 ρ5 cx O4 W5 hcx => ?_
      refine w_rd O4 W5 6 rfl rfl ?_
      simp only [oB_some, bC_true, bC_false, vInt_int, vBool_bool, vStr_string, vPtr_pointer, vSl_slice, vMap_map, vFun_func, vAgg_agg, vTup_tuple, vIfc_nil, vIfc_iface, lC_cons, lN_nil, aP_some, shO_none, shO_some, Option.isNone_none, Option.isNone_some, Bool.not_true, Bool.not_false]
      rw [wrapS (j := s.many) (by omega)]
      refine w_wr O4 W5 6 (j := 0) rfl (Nat.le_of_ble_eq_true rfl) rfl fun h5 ρ6 O5 W6 => ?_
      refine bC_iff (fun e1 => ?_) (fun e1 => ?_)
      · refine w_rd O5 W6 7 rfl rfl ?_
        simp only [oB_some, bC_true, bC_false, vInt_int, vBool_bool, vStr_string, vPtr_pointer, vSl_slice, vMap_map, vFun_func, vAgg_agg, vTup_tuple, vIfc_nil, vIfc_iface, lC_cons, lN_nil, aP_some, shO_none, shO_some, Option.isNone_none, Option.isNone_some, Bool.not_true, Bool.not_false]
        rw [back1 (by omega)]
        refine w_wrL O5 W6 5 (j := 0) rfl (Nat.le_of_ble_eq_true rfl) rfl fun h6 ρ7 O6 W7 => ?_
        refine app_x (facc := facc) O6 W7 hcx L.len hfl2 fun h7 μ7 ρ8 oa' oc' O7 W8 => ?_
        refine fin (bo := .nil) ⟨s.i + 1, s.many + 1, 130, s.i⟩ r' O7 W8 hr2 (by simp only; omega) (by omega) (by simp only; omega) (Nat.le_refl _) (fun _ x => x) (.inl ⟨rfl, rfl⟩) rfl ?_
        rw [bd_bad he hne (nb e1), bd_err (by simp)]
      have hx := nb' e1
      refine w_rd O5 W6 6 rfl rfl ?_
      simp only [oB_some, bC_true, bC_false, vInt_int, vBool_bool, vStr_string, vPtr_pointer, vSl_slice, vMap_map, vFun_func, vAgg_agg, vTup_tuple, vIfc_nil, vIfc_iface, lC_cons, lN_nil, aP_some, shO_none, shO_some, Option.isNone_none, Option.isNone_some, Bool.not_true, Bool.not_false]
      refine bC_iff (fun e2 => ?_) (fun e2 => ?_)
      · have e2 : s.many + 1 > 256 := by have := of_decide_eq_true e2; omega
        refine w_rd O5 W6 7 rfl rfl ?_
        simp only [oB_some, bC_true, bC_false, vInt_int, vBool_bool, vStr_string, vPtr_pointer, vSl_slice, vMap_map, vFun_func, vAgg_agg, vTup_tuple, vIfc_nil, vIfc_iface, lC_cons, lN_nil, aP_some, shO_none, shO_some, Option.isNone_none, Option.isNone_some, Bool.not_true, Bool.not_false]
        rw [back1 (by omega)]
        refine w_wrL O5 W6 5 (j := 0) rfl (Nat.le_of_ble_eq_true rfl) rfl fun h6 ρ7 O6 W7 => ?_
        refine app_x (facc := facc) O6 W7 hcx L.len hfl2 fun h7 μ7 ρ8 oa' oc' O7 W8 => ?_
        refine fin (bo := .nil) ⟨s.i + 1, s.many + 1, 3, s.i⟩ r' O7 W8 hr2 (by simp only; omega) (by omega) (by simp only; omega) (Nat.le_refl _) (fun _ x => x) (.inl ⟨rfl, rfl⟩) rfl ?_
        rw [bd_long he hne hx e2, bd_err (by simp)]
      have e2 : ¬ s.many + 1 > 256 := by have := of_decide_eq_false e2; omega
      refine w_rd O5 W6 0 (j := 0) rfl rfl ?_
      simp only [oB_some, bC_true, bC_false, vInt_int, vBool_bool, vStr_string, vPtr_pointer, vSl_slice, vMap_map, vFun_func, vAgg_agg, vTup_tuple, vIfc_nil, vIfc_iface, lC_cons, lN_nil, aP_some, shO_none, shO_some, Option.isNone_none, Option.isNone_some, Bool.not_true, Bool.not_false]
      refine opens_ok ?_
      simp only [oB_some, bC_true, bC_false, vInt_int, vBool_bool, vStr_string, vPtr_pointer, vSl_slice, vMap_map, vFun_func, vAgg_agg, vTup_tuple, vIfc_nil, vIfc_iface, lC_cons, lN_nil, aP_some, shO_none, shO_some, Option.isNone_none, Option.isNone_some, Bool.not_true, Bool.not_false]
      refine bC_iff (fun ho => ?_) (fun ho => ?_)
      · refine bC_iff (fun e3 => ?_) (fun e3 => ?_)
        · have e3 : deep = 8 := by have := eqI e3; omega
          subst e3
          refine w_rd O5 W6 7 rfl rfl ?_
          simp only [oB_some, bC_true, bC_false, vInt_int, vBool_bool, vStr_string, vPtr_pointer, vSl_slice, vMap_map, vFun_func, vAgg_agg, vTup_tuple, vIfc_nil, vIfc_iface, lC_cons, lN_nil, aP_some, shO_none, shO_some, Option.isNone_none, Option.isNone_some, Bool.not_true, Bool.not_false]
          rw [back1 (by omega)]
          refine w_wrL O5 W6 5 (j := 0) rfl (Nat.le_of_ble_eq_true rfl) rfl fun h6 ρ7 O6 W7 => ?_
          refine app_x (facc := facc) O6 W7 hcx L.len hfl2 fun h7 μ7 ρ8 oa' oc' O7 W8 => ?_
          refine fin (bo := .nil) ⟨s.i + 1, s.many + 1, 132, s.i⟩ r' O7 W8 hr2 (by simp only; omega) (by omega) (by simp only; omega) (Nat.le_refl _) (fun _ x => x) (.inl ⟨rfl, rfl⟩) rfl ?_
          rw [bd_deep he hne hx e2 ho, bd_err (by simp)]
        have e3 : deep ≠ 8 := by have := neI e3; omega
        refine w_rd O5 W6 0 (j := 0) rfl rfl ?_
        simp only [oB_some, bC_true, bC_false, vInt_int, vBool_bool, vStr_string, vPtr_pointer, vSl_slice, vMap_map, vFun_func, vAgg_agg, vTup_tuple, vIfc_nil, vIfc_iface, lC_cons, lN_nil, aP_some, shO_none, shO_some, Option.isNone_none, Option.isNone_some, Bool.not_true, Bool.not_false]
        refine opens_ok ?_
        rw [ho]
        simp only [oB_some, bC_true, bC_false, vInt_int, vBool_bool, vStr_string, vPtr_pointer, vSl_slice, vMap_map, vFun_func, vAgg_agg, vTup_tuple, vIfc_nil, vIfc_iface, lC_cons, lN_nil, aP_some, shO_none, shO_some, Option.isNone_none, Option.isNone_some, Bool.not_true, Bool.not_false]
        refine w_rd O5 W6 3 (j := 0) rfl rfl ?_
        simp only [oB_some, bC_true, bC_false, vInt_int, vBool_bool, vStr_string, vPtr_pointer, vSl_slice, vMap_map, vFun_func, vAgg_agg, vTup_tuple, vIfc_nil, vIfc_iface, lC_cons, lN_nil, aP_some, shO_none, shO_some, Option.isNone_none, Option.isNone_some, Bool.not_true, Bool.not_false]
        rw [wrapS (j := deep) (by omega)]
        refine r_action_Parse_fn2 ?_
        obtain ⟨ρ7, cb, O6, W7, hcb⟩ := w_nil O5 W6.self.tail'.tail' 4
        have F6 : Fra [] ρ ρ6 := Fr.via W6.fra fun c hc => by
          rcases List.mem_cons.1 hc with rfl | hc
          · exact Fr.none0 hcx
          · exact hnm c hc
        obtain ⟨i1, i2, i3, i4, i5⟩ := bd_inv (ps.map Wds.x) n (deep + 1) r' ⟨s.i + 1, s.many + 1, 0, s.bad⟩ hr2 (by simp only [List.length_map]; omega)
        have i6 := bd_len n (deep + 1) r' ⟨s.i + 1, s.many + 1, 0, s.bad⟩
        have hbd := bd_open (n := n) (r := r') he hne hx e2 ho e3
        refine ih (deep + 1) r' ⟨s.i + 1, s.many + 1, 0, s.bad⟩ (facc := .nil) O6 W7 hcb F6 hr2 (by simp only; omega) (by omega) (by simp only; omega) (by omega) (Nat.zero_le _) rfl fun h7 μ7 ρ8 cb' ba bc bcells vs2 O7 W8 hcb' L8 hmore => ?_
        generalize bd n (deep + 1) r' ⟨s.i + 1, s.many + 1, 0, s.bad⟩ = q at i1 i2 i3 i4 i5 i6 hbd W8 L8 ⊢
        have L8 : Lies (Vm vs2) q.1 bcells := L8
        simp only [oB_some, bC_true, bC_false, vInt_int, vBool_bool, vStr_string, vPtr_pointer, vSl_slice, vMap_map, vFun_func, vAgg_agg, vTup_tuple, vIfc_nil, vIfc_iface, lC_cons, lN_nil, aP_some, shO_none, shO_some, Option.isNone_none, Option.isNone_some, Bool.not_true, Bool.not_false]
        have W9 := W6.call1 (fs := [cx, co]) (ms := cm :: ns) (xs := [_, _]) rfl W8 hcb'
        have hcb1 : ρ1 cb' = none := W6.not0 hcb'
        refine w_wr O7 W9 1 (j := 3) rfl (Nat.le_of_ble_eq_true rfl) rfl fun h8 ρ9 O8 W10 => ?_
        obtain ⟨μ9, ρ10, O9, W11⟩ := w_into O8 W10 hcb1 2 rfl
        refine app_x (facc := facc) O9 W11 hcx L.len hfl2 fun h9 μ10 ρ11 oa' oc' O10 W12 => ?_
        refine fin (bo := q.1) q.2.2 q.2.1 O10 W12 i1 (by simpa using i2) (by omega) (by simp only at i3 i4; omega) (by simp only at i3; omega) (fun x hx => List.mem_cons_of_mem _ (hmore x hx)) (.inr ⟨bc, 4, List.mem_cons_self⟩) (L8.mono fun _ _ y => y.more fun z hz => List.mem_cons_of_mem _ hz) hbd
      · refine w_rd O5 W6 0 (j := 0) rfl rfl ?_
        simp only [oB_some, bC_true, bC_false, vInt_int, vBool_bool, vStr_string, vPtr_pointer, vSl_slice, vMap_map, vFun_func, vAgg_agg, vTup_tuple, vIfc_nil, vIfc_iface, lC_cons, lN_nil, aP_some, shO_none, shO_some, Option.isNone_none, Option.isNone_some, Bool.not_true, Bool.not_false]
        refine opens_ok ?_
        rw [ho]
        simp only [oB_some, bC_true, bC_false, vInt_int, vBool_bool, vStr_string, vPtr_pointer, vSl_slice, vMap_map, vFun_func, vAgg_agg, vTup_tuple, vIfc_nil, vIfc_iface, lC_cons, lN_nil, aP_some, shO_none, shO_some, Option.isNone_none, Option.isNone_some, Bool.not_true, Bool.not_false]
        refine app_x (facc := facc) O5 W6 hcx L.len hfl2 fun h7 μ7 ρ8 oa' oc' O7 W8 => ?_
        refine fin (bo := .nil) ⟨s.i + 1, s.many + 1, 0, s.bad⟩ r' O7 W8 hr2 (by simp only; omega) (by omega) (by simp only; omega) (Nat.le_refl _) (fun _ x => x) (.inl ⟨rfl, rfl⟩) rfl ?_
        exact bd_plain he hne hx e2 ho
    refine bC_iff (fun e1 => ?_) (fun e1 => tail fun x => by rw [x] at e1; simp at e1)
    refine wd_at (j := 0) O V rfl rfl (by have := eqI e1; omega) ?_
    refine bC_iff (fun e2 => ?_) (fun e2 => tail fun x => by simp [x] at e2)
    have hend : (ps[s.i]).x = [wEnd] := by
      have h1 : (ps[s.i]).x.length = 1 := by have := eqI e1; omega
      obtain ⟨y, hy⟩ := List.length_eq_one_iff.1 h1
      have h2 := bEq_iff.1 e2
      simp only [hy, List.getElem_cons_zero] at h2
      rw [hy, h2]
    rw [hend, bd_end he] at hq
    refine bC_iff (fun e3 => ?_) (fun e3 => ?_)
    · have e3 : deep = 0 := by have := eqI e3; omega
      rw [if_pos e3, F.app_nil] at hq
      refine w_rd O W 6 rfl rfl ?_
      simp only [oB_some, bC_true, bC_false, vInt_int, vBool_bool, vStr_string, vPtr_pointer, vSl_slice, vMap_map, vFun_func, vAgg_agg, vTup_tuple, vIfc_nil, vIfc_iface, lC_cons, lN_nil, aP_some, shO_none, shO_some, Option.isNone_none, Option.isNone_some, Bool.not_true, Bool.not_false]
      rw [back1 (by omega)]
      repeat (first | refine ⟨rfl, ?_⟩ | refine ⟨trivial, ?_⟩ | simp only [oB_some, bC_true, bC_false, vInt_int, vBool_bool, vStr_string, vPtr_pointer, vSl_slice, vMap_map, vFun_func, vAgg_agg, vTup_tuple, vIfc_nil, vIfc_iface, lC_cons, lN_nil, aP_some, shO_none, shO_some, Option.isNone_none, Option.isNone_some, Bool.not_true, Bool.not_false] | refine w_rd (by assumption) (by assumption) 0 (by rfl) (by rfl) ?_ | refine w_rd (by assumption) (by assumption) 1 (by rfl) (by rfl) ?_ | refine w_rd (by assumption) (by assumption) 2 (by rfl) (by rfl) ?_ | refine w_rd (by assumption) (by assumption) 3 (by rfl) (by rfl) ?_ | refine w_rd (by assumption) (by assumption) 4 (by rfl) (by rfl) ?_ | refine w_rd (by assumption) (by assumption) 5 (by rfl) (by rfl) ?_ | refine w_rd (by assumption) (by assumption) 6 (by rfl) (by rfl) ?_ | refine w_rd (by assumption) (by assumption) 7 (by rfl) (by rfl) ?_ | refine w_wrL (by assumption) (by assumption) 0 (by rfl) (Nat.le_of_ble_eq_true (by rfl)) (by rfl) fun h ρz O W => ?_ | refine w_wrL (by assumption) (by assumption) 1 (by rfl) (Nat.le_of_ble_eq_true (by rfl)) (by rfl) fun h ρz O W => ?_ | refine w_wrL (by assumption) (by assumption) 2 (by rfl) (Nat.le_of_ble_eq_true (by rfl)) (by rfl) fun h ρz O W => ?_ | refine w_wrL (by assumption) (by assumption) 3 (by rfl) (Nat.le_of_ble_eq_true (by rfl)) (by rfl) fun h ρz O W => ?_ | refine w_wrL (by assumption) (by assumption) 4 (by rfl) (Nat.le_of_ble_eq_true (by rfl)) (by rfl) fun h ρz O W => ?_ | refine w_wrL (by assumption) (by assumption) 5 (by rfl) (Nat.le_of_ble_eq_true (by rfl)) (by rfl) fun h ρz O W => ?_ | refine w_wrL (by assumption) (by assumption) 6 (by rfl) (Nat.le_of_ble_eq_true (by rfl)) (by rfl) fun h ρz O W => ?_ | refine w_wrL (by assumption) (by assumption) 7 (by rfl) (Nat.le_of_ble_eq_true (by rfl)) (by rfl) fun h ρz O W => ?_ | refine w_wr (by assumption) (by assumption) 0 (by rfl) (Nat.le_of_ble_eq_true (by rfl)) (by rfl) fun h ρz O W => ?_ | refine w_wr (by assumption) (by assumption) 1 (by rfl) (Nat.le_of_ble_eq_true (by rfl)) (by rfl) fun h ρz O W => ?_ | refine w_wr (by assumption) (by assumption) 2 (by rfl) (Nat.le_of_ble_eq_true (by rfl)) (by rfl) fun h ρz O W => ?_ | refine w_wr (by assumption) (by assumption) 3 (by rfl) (Nat.le_of_ble_eq_true (by rfl)) (by rfl) fun h ρz O W => ?_ | refine w_wr (by assumption) (by assumption) 4 (by rfl) (Nat.le_of_ble_eq_true (by rfl)) (by rfl) fun h ρz O W => ?_ | refine w_wr (by assumption) (by assumption) 5 (by rfl) (Nat.le_of_ble_eq_true (by rfl)) (by rfl) fun h ρz O W => ?_ | refine w_wr (by assumption) (by assumption) 6 (by rfl) (Nat.le_of_ble_eq_true (by rfl)) (by rfl) fun h ρz O W => ?_ | refine w_wr (by assumption) (by assumption) 7 (by rfl) (Nat.le_of_ble_eq_true (by rfl)) (by rfl) fun h ρz O W => ?_)
      exact hq _ _ _ _ _ _ _ _ (by assumption) (by assumption) hco L (fun _ x => x)
    · have e3 : ¬ deep = 0 := by have := neI e3; omega
      rw [if_neg e3, F.app_nil] at hq
      simp only [he] at hq
      exact hq _ _ _ _ _ _ _ _ O W hco L (fun _ x => x)
end Go.Proofs.YtgdkekdedgkglaaDoor
end

section
/- The document's reading of a line. -/
namespace Go.Proofs.YtgdkekdedgkglaaDoor
open Go.Abs Go.Abs.Fo
set_option maxRecDepth 100000
attribute [local irreducible] unitAt EvQ
variable {h : AW} {μ : Paint} {ρ : Store} {Q : Value → AW → Prop}

end Go.Proofs.YtgdkekdedgkglaaDoor
end

section
/- The document's statements up to an end. -/
namespace Go.Proofs.YtgdkekdedgkglaaDoor
open Go.Abs Go.Abs.Fo
set_option maxRecDepth 100000
attribute [local irreducible] unitAt EvQ
variable {h : AW} {μ : Paint} {ρ : Store} {Q : Value → AW → Prop}

end Go.Proofs.YtgdkekdedgkglaaDoor
end

section
/- Lines of words as statements: made, and as said. -/
namespace Go.Proofs.YtgdkekdedgkglaaDoor
open Go.Abs Go.Abs.Fo
set_option maxRecDepth 100000
attribute [local irreducible] unitAt EvQ
variable {h : AW} {μ : Paint} {ρ : Store} {Q : Value → AW → Prop}

/-- What a reading of lines comes to. -/
def NewP (Q : Value → AW → Prop) (ρ : Store) (p : F × Int × Int) : Prop :=
  ∀ h' μ' ρ' co cm oa oc cells vs, Own h' μ' ρ' → Pcs ρ ρ' [co, cm] [.sl oa oc 4 cells, .many vs] → ρ co = none → ρ cm = none → Lies (Vm vs) p.1 cells →
    Q (.tuple ⟨[.slice oa p.1.len oc, .agg ⟨[.int .i64 p.2.1, .int .i64 p.2.2]⟩]⟩) h'
theorem NewP.nil {p : F × Int × Int} (hq : NewP Q ρ p) (e : p.1 = .nil) {h' : AW} {μ' : Paint} {ρ' : Store} (O : Own h' μ' ρ') (F : Fra [] ρ ρ') : Q (.tuple ⟨[.slice Option.none 0 0, .agg ⟨[.int .i64 p.2.1, .int .i64 p.2.2]⟩]⟩) h' := by
  obtain ⟨ρ1, c1, O1, W1, hc1⟩ := w_many O (Pcs.none F)
  obtain ⟨ρ2, c2, O2, W2, hc2⟩ := w_nil O1 W1 4
  have := hq h' μ' ρ2 c2 c1 Option.none 0 [] [] O2 W2 hc2 hc1 (by rw [e]; rfl)
  rw [e] at this
  exact this
theorem parse_ok {G : Str → Prop} (O : Own h μ ρ) (T : Tbs G ρ) {ps : List Wds} {a : Option Addr} {cap : Nat} (X : Lns ρ ps a) (M : Mild (ps.map Wds.x)) (hG : ∀ p, p ∈ ps → ∀ w s, p.x = [w, s] → opOf w = 10 → G s) (hq : NewP Q ρ (parseM (ps.map Wds.x))) : EvQ P f_action_Parse [.slice a ps.length cap] h Q := by
  refine r_action_Parse ?_
  obtain ⟨μ1, ρ1, c1, O1, W1, hc1⟩ := w_new O p00 [.slice a ps.length cap]
  obtain ⟨μ2, ρ2, c2, O2, W2, hc2⟩ := w_new O1 W1 [.int .i64 0, .int .i64 0]
  obtain ⟨μ3, ρ3, c3, O3, W3, hc3⟩ := w_new O2 W2 [.int .i64 0]
  have W3 := W3.swap2
  obtain ⟨μ4, ρ4, c4, O4, W4, hc4⟩ := w_new O3 W3 [.int .i64 0]
  have W4 := W4.swap2
  refine w_wr O4 W4 2 (j := 0) rfl (Nat.le_of_ble_eq_true rfl) rfl fun h5 ρ5 O5 W5 => ?_
  refine w_wr O5 W5 1 (j := 0) rfl (Nat.le_of_ble_eq_true rfl) rfl fun h6 ρ6 O6 W6 => ?_
  obtain ⟨μ7, ρ7, c7, O7, W7, hc7⟩ := w_new O6 W6 [.int .i64 0, .int .i64 0]
  have W7 := W7.swap2
  obtain ⟨μ8, ρ8, c8, O8, W8, hc8⟩ := w_new O7 W7 [.nilFunc]
  have W8 := W8.swap2
  refine w_wr O8 W8 1 (j := 0) rfl (Nat.le_of_ble_eq_true rfl) rfl fun h9 ρ9 O9 W9 => ?_
  obtain ⟨μ10, ρ10, c10, O10, W10, hc10⟩ := w_new O9 W9 [.nilFunc]
  have W10 := W10.swap2
  refine w_wr O10 W10 1 (j := 0) rfl (Nat.le_of_ble_eq_true rfl) rfl fun h11 ρ11 O11 W11 => ?_
  refine w_rd O11 W11 1 (j := 0) rfl rfl ?_
  simp only [oB_some, bC_true, bC_false, vInt_int, vBool_bool, vStr_string, vPtr_pointer, vSl_slice, vMap_map, vFun_func, vAgg_agg, vTup_tuple, vIfc_nil, vIfc_iface, lC_cons, lN_nil, aP_some, shO_none, shO_some, Option.isNone_none, Option.isNone_some, Bool.not_true, Bool.not_false]
  obtain ⟨ρ12, cm, O12, W12, hcm⟩ := w_many O11 W11
  have W12 := W12.swap2
  refine r_action_Parse_fn2 ?_
  obtain ⟨ρ13, co, O13, W13, hco⟩ := w_nil O12 W12.self.tail' 4
  have fr : ∀ c, c ∈ [c2, cm, c10, c8, c7, c4, c3, c1] → ρ c = none := fun c hc => by
    simp only [List.mem_cons, List.not_mem_nil, or_false] at hc
    rcases hc with rfl | rfl | rfl | rfl | rfl | rfl | rfl | rfl <;> assumption
  have F12 : Fra [] ρ ρ12 := W12.fra0 fr
  refine body_loop (cm := cm) (ns := [c10, c8, c7, c4, c3, c1]) T X M hG (fun c hc => fr c (List.mem_cons_of_mem _ hc)) ((ps.map Wds.x).length + 1) 0 (ps.map Wds.x) ps0 (facc := .nil) O13 W13 hco F12 rfl (by simp [ps0]) (by omega) (Nat.le_refl _) (by omega) (Nat.zero_le _) rfl
    fun h14 μ14 ρ14 co' oa oc cells vs O14 W14 hco' L14 _ => ?_
  have W15 := W12.call1 (fs := [c2]) (ms := [cm, c10, c8, c7, c4, c3, c1]) (xs := [_]) rfl W14 hco'
  have hco1 : ρ co' = none := F12.none0 hco'
  have L14 : Lies (Vm vs) (bd ((ps.map Wds.x).length + 1) 0 (ps.map Wds.x) ps0).1 cells := L14
  have hp : parseM (ps.map Wds.x) = (if (bd ((ps.map Wds.x).length + 1) 0 (ps.map Wds.x) ps0).2.2.err ≠ 0 then (.nil, (bd ((ps.map Wds.x).length + 1) 0 (ps.map Wds.x) ps0).2.2.err, (bd ((ps.map Wds.x).length + 1) 0 (ps.map Wds.x) ps0).2.2.bad) else ((bd ((ps.map Wds.x).length + 1) 0 (ps.map Wds.x) ps0).1, 0, 0)) := rfl
  rw [hp] at hq
  generalize bd ((ps.map Wds.x).length + 1) 0 (ps.map Wds.x) ps0 = q at W15 L14 hq ⊢
  simp only [oB_some, bC_true, bC_false, vInt_int, vBool_bool, vStr_string, vPtr_pointer, vSl_slice, vMap_map, vFun_func, vAgg_agg, vTup_tuple, vIfc_nil, vIfc_iface, lC_cons, lN_nil, aP_some, shO_none, shO_some, Option.isNone_none, Option.isNone_some, Bool.not_true, Bool.not_false]
  refine w_rd O14 W15 5 (j := 0) rfl rfl ?_
  simp only [oB_some, bC_true, bC_false, vInt_int, vBool_bool, vStr_string, vPtr_pointer, vSl_slice, vMap_map, vFun_func, vAgg_agg, vTup_tuple, vIfc_nil, vIfc_iface, lC_cons, lN_nil, aP_some, shO_none, shO_some, Option.isNone_none, Option.isNone_some, Bool.not_true, Bool.not_false]
  have fr2 : ∀ c, c ∈ [co', c2, cm, c10, c8, c7, c4, c3, c1] → ρ c = none := fun c hc => by
    rcases List.mem_cons.1 hc with rfl | hc
    · exact hco1
    · exact fr c hc
  refine bC_iff (fun e => ?_) (fun e => ?_)
  · have e : q.2.2.err ≠ 0 := by simpa using e
    rw [if_pos e] at hq
    repeat (first | refine ⟨rfl, ?_⟩ | refine ⟨trivial, ?_⟩ | simp only [oB_some, bC_true, bC_false, vInt_int, vBool_bool, vStr_string, vPtr_pointer, vSl_slice, vMap_map, vFun_func, vAgg_agg, vTup_tuple, vIfc_nil, vIfc_iface, lC_cons, lN_nil, aP_some, shO_none, shO_some, Option.isNone_none, Option.isNone_some, Bool.not_true, Bool.not_false] | refine w_rd (by assumption) (by assumption) 0 (by rfl) (by rfl) ?_ | refine w_rd (by assumption) (by assumption) 1 (by rfl) (by rfl) ?_ | refine w_rd (by assumption) (by assumption) 2 (by rfl) (by rfl) ?_ | refine w_rd (by assumption) (by assumption) 3 (by rfl) (by rfl) ?_ | refine w_rd (by assumption) (by assumption) 4 (by rfl) (by rfl) ?_ | refine w_rd (by assumption) (by assumption) 5 (by rfl) (by rfl) ?_ | refine w_rd (by assumption) (by assumption) 6 (by rfl) (by rfl) ?_ | refine w_rd (by assumption) (by assumption) 7 (by rfl) (by rfl) ?_ | refine w_rd (by assumption) (by assumption) 8 (by rfl) (by rfl) ?_ | refine w_wrL (by assumption) (by assumption) 0 (by rfl) (Nat.le_of_ble_eq_true (by rfl)) (by rfl) fun h ρz O W => ?_ | refine w_wrL (by assumption) (by assumption) 1 (by rfl) (Nat.le_of_ble_eq_true (by rfl)) (by rfl) fun h ρz O W => ?_ | refine w_wrL (by assumption) (by assumption) 2 (by rfl) (Nat.le_of_ble_eq_true (by rfl)) (by rfl) fun h ρz O W => ?_ | refine w_wrL (by assumption) (by assumption) 3 (by rfl) (Nat.le_of_ble_eq_true (by rfl)) (by rfl) fun h ρz O W => ?_ | refine w_wrL (by assumption) (by assumption) 4 (by rfl) (Nat.le_of_ble_eq_true (by rfl)) (by rfl) fun h ρz O W => ?_ | refine w_wrL (by assumption) (by assumption) 5 (by rfl) (Nat.le_of_ble_eq_true (by rfl)) (by rfl) fun h ρz O W => ?_ | refine w_wrL (by assumption) (by assumption) 6 (by rfl) (Nat.le_of_ble_eq_true (by rfl)) (by rfl) fun h ρz O W => ?_ | refine w_wrL (by assumption) (by assumption) 7 (by rfl) (Nat.le_of_ble_eq_true (by rfl)) (by rfl) fun h ρz O W => ?_ | refine w_wrL (by assumption) (by assumption) 8 (by rfl) (Nat.le_of_ble_eq_true (by rfl)) (by rfl) fun h ρz O W => ?_ | refine w_wr (by assumption) (by assumption) 0 (by rfl) (Nat.le_of_ble_eq_true (by rfl)) (by rfl) fun h ρz O W => ?_ | refine w_wr (by assumption) (by assumption) 1 (by rfl) (Nat.le_of_ble_eq_true (by rfl)) (by rfl) fun h ρz O W => ?_ | refine w_wr (by assumption) (by assumption) 2 (by rfl) (Nat.le_of_ble_eq_true (by rfl)) (by rfl) fun h ρz O W => ?_ | refine w_wr (by assumption) (by assumption) 3 (by rfl) (Nat.le_of_ble_eq_true (by rfl)) (by rfl) fun h ρz O W => ?_ | refine w_wr (by assumption) (by assumption) 4 (by rfl) (Nat.le_of_ble_eq_true (by rfl)) (by rfl) fun h ρz O W => ?_ | refine w_wr (by assumption) (by assumption) 5 (by rfl) (Nat.le_of_ble_eq_true (by rfl)) (by rfl) fun h ρz O W => ?_ | refine w_wr (by assumption) (by assumption) 6 (by rfl) (Nat.le_of_ble_eq_true (by rfl)) (by rfl) fun h ρz O W => ?_ | refine w_wr (by assumption) (by assumption) 7 (by rfl) (Nat.le_of_ble_eq_true (by rfl)) (by rfl) fun h ρz O W => ?_ | refine w_wr (by assumption) (by assumption) 8 (by rfl) (Nat.le_of_ble_eq_true (by rfl)) (by rfl) fun h ρz O W => ?_)
    exact hq.nil rfl (by assumption) (Pcs.fra0 (by assumption) fr2)
  · have e : q.2.2.err = 0 := by simpa using e
    rw [if_neg (fun h => h e)] at hq
    refine w_wrL O14 W15 1 (j := 0) rfl (Nat.le_of_ble_eq_true rfl) rfl fun h16 ρ16 O16 W16 => ?_
    repeat (first | refine ⟨rfl, ?_⟩ | refine ⟨trivial, ?_⟩ | simp only [oB_some, bC_true, bC_false, vInt_int, vBool_bool, vStr_string, vPtr_pointer, vSl_slice, vMap_map, vFun_func, vAgg_agg, vTup_tuple, vIfc_nil, vIfc_iface, lC_cons, lN_nil, aP_some, shO_none, shO_some, Option.isNone_none, Option.isNone_some, Bool.not_true, Bool.not_false] | refine w_rd (by assumption) (by assumption) 0 (by rfl) (by rfl) ?_ | refine w_rd (by assumption) (by assumption) 1 (by rfl) (by rfl) ?_ | refine w_wrL (by assumption) (by assumption) 0 (by rfl) (Nat.le_of_ble_eq_true (by rfl)) (by rfl) fun h ρz O W => ?_ | refine w_wrL (by assumption) (by assumption) 1 (by rfl) (Nat.le_of_ble_eq_true (by rfl)) (by rfl) fun h ρz O W => ?_ | refine w_wr (by assumption) (by assumption) 0 (by rfl) (Nat.le_of_ble_eq_true (by rfl)) (by rfl) fun h ρz O W => ?_ | refine w_wr (by assumption) (by assumption) 1 (by rfl) (Nat.le_of_ble_eq_true (by rfl)) (by rfl) fun h ρz O W => ?_)
    have hne : co' ≠ cm := by
      have := W16.nodup
      simp at this
      exact this.1.2.1
    exact hq _ _ _ co' cm oa oc cells vs O16 (Pcs.mk2 (W16.at_ 0 _ _ rfl rfl) (W16.at_ 2 _ _ rfl rfl) hne (W16.fra0 fr2)) hco1 hcm L14
end Go.Proofs.YtgdkekdedgkglaaDoor
end

section
/- Lines of words built piece by piece. -/
namespace Go.Proofs.YtgdkekdedgkglaaDoor
open Go.Abs Go.Abs.Fo
set_option maxRecDepth 100000
attribute [local irreducible] unitAt EvQ
variable {h : AW} {μ : Paint} {ρ : Store} {Q : Value → AW → Prop}
/-- Lines whose words lie among many. -/
def Built (vs : List (Option Addr × Nat × Nat × List Value)) (ps : List Wds) : Prop := ∀ p, p ∈ ps → Vm vs p.a (strs p.x) ∧ p.x.length ≤ p.cap
theorem Built.lns {vs : List (Option Addr × Nat × Nat × List Value)} {ps : List Wds} (B : Built vs ps) (O : Own h μ ρ) {co cm : Nat} {oa : Option Addr} {oc : Nat} (h1 : ρ co = some (.sl oa oc 1 (ps.map Wds.cell))) (h2 : ρ cm = some (.many vs)) : Lns ρ ps oa :=
  ⟨.inr (Rd.of_sl O (by simp) h1), fun p hp => (B p hp).1.read O h2, fun p hp => (B p hp).2⟩
theorem Built.nil {vs : List (Option Addr × Nat × Nat × List Value)} : Built vs [] := fun p hp => by simp at hp
theorem Built.more {vs ws : List (Option Addr × Nat × Nat × List Value)} {ps : List Wds} (B : Built vs ps) (hs : ∀ x, x ∈ vs → x ∈ ws) : Built ws ps := fun p hp => ⟨(B p hp).1.more hs, (B p hp).2⟩
theorem Built.app {vs : List (Option Addr × Nat × Nat × List Value)} {ps qs : List Wds} (B : Built vs ps) (C : Built vs qs) : Built vs (ps ++ qs) := fun p hp => by
  rcases List.mem_append.1 hp with x | x
  · exact B p x
  · exact C p x
theorem Built.snoc {vs : List (Option Addr × Nat × Nat × List Value)} {ps : List Wds} (B : Built vs ps) {p : Wds} (hc : p.x.length ≤ p.cap) : Built ((p.a, p.cap, 1, strs p.x) :: vs) (ps ++ [p]) :=
  (B.more fun x hx => List.mem_cons_of_mem _ hx).app fun q hq => by
    simp at hq; subst hq
    exact ⟨.inr ⟨_, _, List.mem_cons_self⟩, hc⟩
theorem allOne_cells (ps : List Wds) : allOne (ps.map Wds.cell) = true := allOne_of fun v hv => by
  obtain ⟨p, _, rfl⟩ := List.mem_map.1 hv
  rfl
/-- A line joins the others. -/
theorem app_line (O : Own h μ ρ) {ρ1 : Store} {ns : List Nat} {rs : List Res} (W : Pcs ρ1 ρ ns rs) (i j : Nat) (hij : j ≠ i) {oa : Option Addr} {oc : Nat} {ps : List Wds} {vs : List (Option Addr × Nat × Nat × List Value)} (hi : rs[i]? = some (.sl oa oc 1 (ps.map Wds.cell))) (hj : rs[j]? = some (.many vs))
    (x : List Str) (hps : ps.length ≤ 1000000) {K : Value → AW → Prop}
    (H : ∀ h' μ' ρ' oa' oc' (p : Wds), p.x = x → p.cap = x.length → Own h' μ' ρ' → Pcs ρ1 ρ' ns ((rs.set j (.many ((p.a, p.cap, 1, strs p.x) :: vs))).set i (.sl oa' oc' 1 ((ps ++ [p]).map Wds.cell))) → K (.slice oa' (ps.length + 1) oc') h') :
    oP (appendB P (AW.addVar (AW.addVar h (strs x)) [.slice (some ⟨AW.next h, 0, none⟩) x.length x.length]) ⟨[ty_sl_sl_string, ty_sl_sl_string]⟩ [.slice oa ps.length oc, .slice (some ⟨AW.next (AW.addVar h (strs x)), 0, none⟩) 1 1]) K := by
  obtain ⟨μ1, ρ2, c1, O1, W1, hc1⟩ := w_block O W (strs x) (n := x.length) (sz := 1) (by simp) allOne_strs
  obtain ⟨μ2, ρ3, O2, W2⟩ := w_into O1 W1 hc1 j hj
  obtain ⟨μ3, ρ4, c2, O3, W3, hc2⟩ := w_block O2 W2 [.slice (some ⟨AW.next h, 0, none⟩) x.length x.length] (n := 1) (sz := 1) rfl rfl
  refine w_app (P := P) O3 W3 (i + 1) (n := ps.length) (m := 1) ti_ty_sl_sl_string ti_ty_sl_string (by decide) (by rw [List.getElem?_cons_succ, List.getElem?_set_ne hij]; exact hi) (by simp) (w_sl O3 W3 0 rfl) rfl rfl (by omega) (by omega) fun oa' oc' h2 μ4 ρ5 O4 W4 => ?_
  refine H _ _ _ oa' oc' ⟨some ⟨AW.next h, 0, none⟩, x.length, x⟩ rfl rfl O4 ?_
  have := W4.tail hc2
  rw [List.map_append]
  exact this
/-- Lines are read, and the spot is laid down. -/
theorem parse_spot {G : Str → Prop} (O : Own h μ ρ) (T : Tbs G ρ) {ps : List Wds} {a : Option Addr} {cap : Nat} (X : Lns ρ ps a) (M : Mild (ps.map Wds.x)) (hG : ∀ p, p ∈ ps → ∀ w s, p.x = [w, s] → opOf w = 10 → G s) {ρ1 : Store} {ns : List Nat} {rs : List Res} (W : Pcs ρ1 ρ ns rs)
    {K : Option Addr → Nat → Nat → AW → AW → Prop}
    (H : ∀ h11 h27 μ' ρ' c co cm oa oc cells vs, Own h27 μ' ρ' → Pcs ρ1 ρ' (c :: co :: cm :: ns) (.var (AW.next h11) [.int .i64 (parseM (ps.map Wds.x)).2.1, .int .i64 (parseM (ps.map Wds.x)).2.2] :: .sl oa oc 4 cells :: .many vs :: rs) → Fra [] ρ ρ' → ρ1 c = none → ρ1 co = none → ρ1 cm = none →
      Lies (Vm vs) (parseM (ps.map Wds.x)).1 cells → K oa (parseM (ps.map Wds.x)).1.len oc h11 h27) :
    EvQ P f_action_Parse [.slice a ps.length cap] h fun v10 h11 => vTup v10 fun l12 => lC l12 fun v13 l14 => vSl v13 fun p15 m16 m17 => lC l14 fun v18 l19 => vAgg v18 fun l20 => lC l20 fun v21 l22 => vInt .i64 v21 fun n23 => lC l22 fun v24 l25 => vInt .i64 v24 fun n26 => lN l25 (lN l19
      (oB (AW.wrL (AW.addVar h11 [.int .i64 0, .int .i64 0]) (AW.next h11) 0 [.int .i64 n23, .int .i64 n26]) fun h27 => K p15 m16 m17 h11 h27)) := by
  refine parse_ok O T X M hG fun h2 μ2 ρ2 co cm oa oc cells vs O2 W2 hco hcm L2 => ?_
  simp only [oB_some, bC_true, bC_false, vInt_int, vBool_bool, vStr_string, vPtr_pointer, vSl_slice, vMap_map, vFun_func, vAgg_agg, vTup_tuple, vIfc_nil, vIfc_iface, lC_cons, lN_nil, aP_some, shO_none, shO_some, Option.isNone_none, Option.isNone_some, Bool.not_true, Bool.not_false]
  have F2 : Fra [] ρ ρ2 := W2.fra0 fun c hc => by simp at hc; rcases hc with rfl | rfl <;> assumption
  have W3 := W.adopt2 W2 hco hcm
  refine w_copyF O2 W3 rfl rfl rfl fun h3 μ3 ρ3 c O3 W4 hc F3 => ?_
  exact H _ _ _ _ c co cm oa oc cells vs O3 W4 (F2.trans F3) hc (W.not0 hco) (W.not0 hcm) L2
end Go.Proofs.YtgdkekdedgkglaaDoor
end

section
/- Size, depth, and what may be: the program's. -/
namespace Go.Proofs.YtgdkekdedgkglaaDoor
open Go.Abs Go.Abs.Fo
set_option maxRecDepth 100000
attribute [local irreducible] unitAt EvQ
variable {h : AW} {μ : Paint} {ρ : Store} {Q : Value → AW → Prop}
theorem snocs (pre : F) (op : Int) (args : List Str) (kk : Int) (body : F) : (∀ g : F, (pre.snoc op args kk body).app g = pre.app (.cons op args kk body g)) ∧ (pre.snoc op args kk body).len = pre.len + 1 :=
  ⟨fun g => F.snoc_app pre op args kk body g, F.snoc_len pre op args kk body⟩
theorem size_loop : ∀ (rest : F) {h : AW} {μ : Paint} {ρ : Store} {Q : Value → AW → Prop}, Own h μ ρ → ∀ {pre : F} {a : Option Addr} {c : List Value} {cap n : Nat}, Vw ρ [] a c → Lies (Vw ρ []) (pre.app rest) c → (pre.app rest).len ≤ 140737488355328 → n + rest.more ≤ 1000000000 → rest.size ≤ 1000000000 →
    RdQ Q ρ (.int .i64 ((n + rest.more : Nat) : Int)) → unitAt P f_action_Size 3 [3, 8, 9, 10] [.int .i64 (n : Int), .slice a (pre.app rest).len cap, .int .i64 ((pre.app rest).len : Int), .int .i64 (pre.len : Int)] h Q
  | .nil, h, μ, ρ, Q, O, pre, a, c, cap, n, X, L, hl, hn, hs, hq => by
    refine r_action_Size_3 ?_
    rw [F.app_nil, geI (Nat.le_refl _)]
    simp only [oB_some, bC_true, bC_false, vInt_int, vBool_bool, vStr_string, vPtr_pointer, vSl_slice, vMap_map, vFun_func, vAgg_agg, vTup_tuple, vIfc_nil, vIfc_iface, lC_cons, lN_nil, aP_some, shO_none, shO_some, Option.isNone_none, Option.isNone_some, Bool.not_true, Bool.not_false]
    exact hq.now O
  | .cons op args kk body rest, h, μ, ρ, Q, O, pre, a, c, cap, n, X, L, hl, hn, hs, hq => by
    have hlt : pre.len < (pre.app (.cons op args kk body rest)).len := app_lt
    simp only [F.more, F.size] at hn hs hq
    have hb := F.size_more body
    have hr := F.size_more rest
    refine r_action_Size_3 ?_
    rw [ltI hlt]
    simp only [oB_some, bC_true, bC_false, vInt_int, vBool_bool, vStr_string, vPtr_pointer, vSl_slice, vMap_map, vFun_func, vAgg_agg, vTup_tuple, vIfc_nil, vIfc_iface, lC_cons, lN_nil, aP_some, shO_none, shO_some, Option.isNone_none, Option.isNone_some, Bool.not_true, Bool.not_false]
    refine st_copy O X L rfl rfl fun h1 μ1 ρ1 c1 aa ac ba bc O1 W1 hc1 F1 va la => ?_
    refine w_rd O1 W1 0 (j := 3) rfl rfl ?_
    simp only [oB_some, bC_true, bC_false, vInt_int, vBool_bool, vStr_string, vPtr_pointer, vSl_slice, vMap_map, vFun_func, vAgg_agg, vTup_tuple, vIfc_nil, vIfc_iface, lC_cons, lN_nil, aP_some, shO_none, shO_some, Option.isNone_none, Option.isNone_some, Bool.not_true, Bool.not_false]
    obtain ⟨bcells, v2, l2⟩ := la
    refine r_action_Size ?_
    refine size_loop body O1 (pre := .nil) v2 l2 (show body.len ≤ _ by omega) (show body.len + body.more ≤ _ by omega) (by omega) fun h2 μ2 ρ2 O2 F2 => ?_
    have F12 := F1.trans F2
    simp only [oB_some, bC_true, bC_false, vInt_int, vBool_bool, vStr_string, vPtr_pointer, vSl_slice, vMap_map, vFun_func, vAgg_agg, vTup_tuple, vIfc_nil, vIfc_iface, lC_cons, lN_nil, aP_some, shO_none, shO_some, Option.isNone_none, Option.isNone_some, Bool.not_true, Bool.not_false]
    rw [show IntKind.wrap .i64 ((n : Int) + ((body.len + body.more : Nat) : Int)) = ((n + body.size : Nat) : Int) from by
      rw [wrap_small (n := (n : Int) + ((body.len + body.more : Nat) : Int)) (by omega) (by omega)]; omega, wrapS (by omega)]
    obtain ⟨e3, e4⟩ := snocs pre op args kk body
    have := size_loop rest (Q := Q) O2 (pre := pre.snoc op args kk body) (n := n + body.size) (cap := cap) (X.keep F12) (by rw [e3]; exact L.mono fun _ _ x => x.keep F12) (by rw [e3]; exact hl) (by omega) (by omega) (by
      have := hq.keep F12
      rw [← Nat.add_assoc] at this; exact this)
    rw [e3, e4] at this
    exact this
theorem size_ok (O : Own h μ ρ) {f : F} {a : Option Addr} {cap : Nat} (X : Ly ρ f a) (hs : f.size ≤ 1000000000) (hq : RdQ Q ρ (.int .i64 (f.size : Int))) : EvQ P f_action_Size [.slice a f.len cap] h Q := by
  obtain ⟨c, v, l⟩ := X
  have := F.size_more f
  exact r_action_Size (size_loop f O (pre := .nil) v l (show f.len ≤ _ by omega) (show f.len + f.more ≤ _ by omega) hs (by rw [F.size_more] at hq; exact hq))
theorem right_loop : ∀ (rest : F) {h : AW} {μ : Paint} {ρ : Store} {Q : Value → AW → Prop}, Own h μ ρ → ∀ {pre : F} {a : Option Addr} {c : List Value} {cap d : Nat}, Vw ρ [] a c → Lies (Vw ρ []) (pre.app rest) c → (pre.app rest).len ≤ 140737488355328 → d + rest.size ≤ 1000000000 → rest.size ≤ 1000000000 →
    RdQ Q ρ (.bool (rest.right d)) → unitAt P f_action_right 2 [1, 7, 8, 9] [.int .i64 (d : Int), .slice a (pre.app rest).len cap, .int .i64 ((pre.app rest).len : Int), .int .i64 (pre.len : Int)] h Q
  | .nil, h, μ, ρ, Q, O, pre, a, c, cap, n, X, L, hl, hn, hs, hq => by
    refine r_action_right_2 ?_
    rw [F.app_nil, geI (Nat.le_refl _)]
    simp only [oB_some, bC_true, bC_false, vInt_int, vBool_bool, vStr_string, vPtr_pointer, vSl_slice, vMap_map, vFun_func, vAgg_agg, vTup_tuple, vIfc_nil, vIfc_iface, lC_cons, lN_nil, aP_some, shO_none, shO_some, Option.isNone_none, Option.isNone_some, Bool.not_true, Bool.not_false]
    exact hq.now O
  | .cons op args kk body rest, hb, μ, ρb, Q, Ob, pre, a, c, cap, d, X, L, hl, hn, hs, hq => by
    have hlt : pre.len < (pre.app (.cons op args kk body rest)).len := app_lt
    simp only [F.size] at hs hn
    have hbs := F.size_more body
    have hrs := F.size_more rest
    obtain ⟨e3, e4⟩ := snocs pre op args kk body
    have no : ∀ {h' : AW} {μ' : Paint} {ρ' : Store}, Own h' μ' ρ' → Fra [] ρb ρ' → F.right (.cons op args kk body rest) d = false → Q (.bool false) h' := fun O' F' e => by
      have := hq _ _ _ O' F'
      rw [e] at this; exact this
    refine r_action_right_2 ?_
    rw [ltI hlt]
    simp only [oB_some, bC_true, bC_false, vInt_int, vBool_bool, vStr_string, vPtr_pointer, vSl_slice, vMap_map, vFun_func, vAgg_agg, vTup_tuple, vIfc_nil, vIfc_iface, lC_cons, lN_nil, aP_some, shO_none, shO_some, Option.isNone_none, Option.isNone_some, Bool.not_true, Bool.not_false]
    refine st_copy Ob X L rfl rfl fun h μ ρ c1 aa ac ba bc O W hc1 F1 va la => ?_
    repeat (first | refine ⟨rfl, ?_⟩ | refine ⟨trivial, ?_⟩ | simp only [oB_some, bC_true, bC_false, vInt_int, vBool_bool, vStr_string, vPtr_pointer, vSl_slice, vMap_map, vFun_func, vAgg_agg, vTup_tuple, vIfc_nil, vIfc_iface, lC_cons, lN_nil, aP_some, shO_none, shO_some, Option.isNone_none, Option.isNone_some, Bool.not_true, Bool.not_false] | refine w_rd (by assumption) (by assumption) 0 (by rfl) (by rfl) ?_ | refine w_wrL (by assumption) (by assumption) 0 (by rfl) (Nat.le_of_ble_eq_true (by rfl)) (by rfl) fun h ρz O W => ?_ | refine w_wr (by assumption) (by assumption) 0 (by rfl) (Nat.le_of_ble_eq_true (by rfl)) (by rfl) fun h ρz O W => ?_)
    refine bC_iff (fun e => no O F1 ?_) (fun x1 => ?_)
    · have e := of_decide_eq_true e
      simp only [F.right, F.fine, decide_eq_false (show ¬ 1 ≤ op by omega), Bool.false_and]
    have x1 := of_decide_eq_false x1
    repeat (first | refine ⟨rfl, ?_⟩ | refine ⟨trivial, ?_⟩ | simp only [oB_some, bC_true, bC_false, vInt_int, vBool_bool, vStr_string, vPtr_pointer, vSl_slice, vMap_map, vFun_func, vAgg_agg, vTup_tuple, vIfc_nil, vIfc_iface, lC_cons, lN_nil, aP_some, shO_none, shO_some, Option.isNone_none, Option.isNone_some, Bool.not_true, Bool.not_false] | refine w_rd (by assumption) (by assumption) 0 (by rfl) (by rfl) ?_ | refine w_wrL (by assumption) (by assumption) 0 (by rfl) (Nat.le_of_ble_eq_true (by rfl)) (by rfl) fun h ρz O W => ?_ | refine w_wr (by assumption) (by assumption) 0 (by rfl) (Nat.le_of_ble_eq_true (by rfl)) (by rfl) fun h ρz O W => ?_)
    refine bC_iff (fun e => no O F1 ?_) (fun x2 => ?_)
    · have e := of_decide_eq_true e
      simp only [F.right, F.fine, decide_eq_false (show ¬ op ≤ 12 by omega), Bool.false_and, Bool.and_false]
    have x2 := of_decide_eq_false x2
    repeat (first | refine ⟨rfl, ?_⟩ | refine ⟨trivial, ?_⟩ | simp only [oB_some, bC_true, bC_false, vInt_int, vBool_bool, vStr_string, vPtr_pointer, vSl_slice, vMap_map, vFun_func, vAgg_agg, vTup_tuple, vIfc_nil, vIfc_iface, lC_cons, lN_nil, aP_some, shO_none, shO_some, Option.isNone_none, Option.isNone_some, Bool.not_true, Bool.not_false] | refine w_rd (by assumption) (by assumption) 0 (by rfl) (by rfl) ?_ | refine w_wrL (by assumption) (by assumption) 0 (by rfl) (Nat.le_of_ble_eq_true (by rfl)) (by rfl) fun h ρz O W => ?_ | refine w_wr (by assumption) (by assumption) 0 (by rfl) (Nat.le_of_ble_eq_true (by rfl)) (by rfl) fun h ρz O W => ?_)
    refine fits_ok ?_
    simp only [oB_some, bC_true, bC_false, vInt_int, vBool_bool, vStr_string, vPtr_pointer, vSl_slice, vMap_map, vFun_func, vAgg_agg, vTup_tuple, vIfc_nil, vIfc_iface, lC_cons, lN_nil, aP_some, shO_none, shO_some, Option.isNone_none, Option.isNone_some, Bool.not_true, Bool.not_false]
    refine bC_iff (fun e => no O F1 ?_) (fun x3 => ?_)
    · simp only [F.right, F.fine, nb e, Bool.false_and, Bool.and_false]
    have x3 := nb' x3
    repeat (first | refine ⟨rfl, ?_⟩ | refine ⟨trivial, ?_⟩ | simp only [oB_some, bC_true, bC_false, vInt_int, vBool_bool, vStr_string, vPtr_pointer, vSl_slice, vMap_map, vFun_func, vAgg_agg, vTup_tuple, vIfc_nil, vIfc_iface, lC_cons, lN_nil, aP_some, shO_none, shO_some, Option.isNone_none, Option.isNone_some, Bool.not_true, Bool.not_false] | refine w_rd (by assumption) (by assumption) 0 (by rfl) (by rfl) ?_ | refine w_wrL (by assumption) (by assumption) 0 (by rfl) (Nat.le_of_ble_eq_true (by rfl)) (by rfl) fun h ρz O W => ?_ | refine w_wr (by assumption) (by assumption) 0 (by rfl) (Nat.le_of_ble_eq_true (by rfl)) (by rfl) fun h ρz O W => ?_)
    refine bC_iff (fun e => no O F1 ?_) (fun x4 => ?_)
    · have e := of_decide_eq_true e
      simp only [F.right, F.fine, decide_eq_false (show ¬ 0 ≤ kk by omega), Bool.false_and, Bool.and_false]
    have x4 := of_decide_eq_false x4
    repeat (first | refine ⟨rfl, ?_⟩ | refine ⟨trivial, ?_⟩ | simp only [oB_some, bC_true, bC_false, vInt_int, vBool_bool, vStr_string, vPtr_pointer, vSl_slice, vMap_map, vFun_func, vAgg_agg, vTup_tuple, vIfc_nil, vIfc_iface, lC_cons, lN_nil, aP_some, shO_none, shO_some, Option.isNone_none, Option.isNone_some, Bool.not_true, Bool.not_false] | refine w_rd (by assumption) (by assumption) 0 (by rfl) (by rfl) ?_ | refine w_wrL (by assumption) (by assumption) 0 (by rfl) (Nat.le_of_ble_eq_true (by rfl)) (by rfl) fun h ρz O W => ?_ | refine w_wr (by assumption) (by assumption) 0 (by rfl) (Nat.le_of_ble_eq_true (by rfl)) (by rfl) fun h ρz O W => ?_)
    refine bC_iff (fun e => no O F1 ?_) (fun x5 => ?_)
    · have e := of_decide_eq_true e
      simp only [F.right, F.fine, decide_eq_false (show ¬ kk ≤ 1000 by omega), Bool.false_and, Bool.and_false]
    have x5 := of_decide_eq_false x5
    have tl : F.fine op args.length kk = true → (opensM op = true → d ≠ 8) → (opensM op = false → body.len = 0) →
        oB (AW.rd h (AW.next hb) 3) fun v65 => vSl v65 fun p66 m67 m68 => EvQ P f_action_right [.slice p66 m67 m68, .int .i64 (IntKind.wrap .i64 ((d : Int) + 1))] h fun v69 h70 => vBool v69 fun b71 => bC (!b71) (Q (.bool false) h70)
          (unitAt P f_action_right 2 [1, 7, 8, 9] [.int .i64 (d : Int), .slice a (pre.app (.cons op args kk body rest)).len cap, .int .i64 ((pre.app (.cons op args kk body rest)).len : Int), .int .i64 (IntKind.wrap .i64 ((pre.len : Int) + 1))] h70 Q) := by
      intro hf h8 h0
      have f2 : (!(opensM op && decide (d = 8))) = true := by
        cases ho : opensM op with
        | true => simp [h8 ho]
        | false => rfl
      have f3 : (opensM op || decide (body.len = 0)) = true := by
        cases ho : opensM op with
        | true => rfl
        | false => simp [h0 ho]
      refine w_rd O W 0 (j := 3) rfl rfl ?_
      simp only [oB_some, bC_true, bC_false, vInt_int, vBool_bool, vStr_string, vPtr_pointer, vSl_slice, vMap_map, vFun_func, vAgg_agg, vTup_tuple, vIfc_nil, vIfc_iface, lC_cons, lN_nil, aP_some, shO_none, shO_some, Option.isNone_none, Option.isNone_some, Bool.not_true, Bool.not_false]
      obtain ⟨bcells, v2, l2⟩ := la
      rw [wrapS (j := d) (by omega)]
      refine r_action_right ?_
      refine right_loop body O (pre := .nil) v2 l2 (show body.len ≤ _ by omega) (by omega) (by omega) fun h2 μ2 ρ2 O2 F2 => ?_
      have F12 := F1.trans F2
      simp only [oB_some, bC_true, bC_false, vInt_int, vBool_bool, vStr_string, vPtr_pointer, vSl_slice, vMap_map, vFun_func, vAgg_agg, vTup_tuple, vIfc_nil, vIfc_iface, lC_cons, lN_nil, aP_some, shO_none, shO_some, Option.isNone_none, Option.isNone_some, Bool.not_true, Bool.not_false]
      refine bC_iff (fun e => no O2 F12 ?_) (fun e => ?_)
      · simp only [F.right, nb e, Bool.false_and, Bool.and_false]
      have e := nb' e
      rw [wrapS (by omega)]
      have := right_loop rest (Q := Q) O2 (pre := pre.snoc op args kk body) (d := d) (cap := cap) (X.keep F12) (by rw [e3]; exact L.mono fun _ _ x => x.keep F12) (by rw [e3]; exact hl) (by omega) (by omega) (by
        have := hq.keep F12
        simp only [F.right, hf, f2, f3, e, Bool.true_and] at this
        exact this)
      rw [e3, e4] at this
      exact this
    have after : F.fine op args.length kk = true →
        oB (AW.rd h (AW.next hb) 0) fun v44 => vInt IntKind.i64 v44 fun n45 => EvQ P f_action_opens [Value.int IntKind.i64 n45] h fun v46 h47 => vBool v46 fun b48 => bC b48 (bC ((d : Int) == 8) (Q
        (Value.bool false) h47) (oB (AW.rd h47 (AW.next hb) 0) fun v49 => vInt IntKind.i64 v49 fun n50 => EvQ P f_action_opens [Value.int IntKind.i64 n50] h47 fun v51 h52 => vBool v51 fun
        b53 => bC (!b53) (oB (AW.rd h52 (AW.next hb) 3) fun v54 => vSl v54 fun p55 m56 m57 => bC (decide ((↑m56 : Int) > 0)) (Q (Value.bool false) h52) (oB (AW.rd h52 (AW.next hb) 3) fun v58
        => vSl v58 fun p59 m60 m61 => EvQ P f_action_right [Value.slice p59 m60 m61, Value.int IntKind.i64 (IntKind.wrap IntKind.i64 ((d : Int) + 1))] h52 fun v62 h63 => vBool v62 fun b64 =>
        bC (!b64) (Q (Value.bool false) h63) (unitAt P f_action_right 2 [1, 7, 8, 9] [Value.int IntKind.i64 (d : Int), Value.slice a (pre.app (.cons op args kk body rest)).len cap, Value.int
        IntKind.i64 ((pre.app (.cons op args kk body rest)).len : Int), Value.int IntKind.i64 (IntKind.wrap IntKind.i64 ((pre.len : Int) + 1))] h63 Q))) (oB (AW.rd h52 (AW.next hb) 3) fun
        v65 => vSl v65 fun p66 m67 m68 => EvQ P f_action_right [Value.slice p66 m67 m68, Value.int IntKind.i64 (IntKind.wrap IntKind.i64 ((d : Int) + 1))] h52 fun v69 h70 => vBool v69 fun
        b71 => bC (!b71) (Q (Value.bool false) h70) (unitAt P f_action_right 2 [1, 7, 8, 9] [Value.int IntKind.i64 (d : Int), Value.slice a (pre.app (.cons op args kk body rest)).len cap,
        Value.int IntKind.i64 ((pre.app (.cons op args kk body rest)).len : Int), Value.int IntKind.i64 (IntKind.wrap IntKind.i64 ((pre.len : Int) + 1))] h70 Q)))) (oB (AW.rd h47 (AW.next
        hb) 0) fun v72 => vInt IntKind.i64 v72 fun n73 => EvQ P f_action_opens [Value.int IntKind.i64 n73] h47 fun v74 h75 => vBool v74 fun b76 => bC (!b76) (oB (AW.rd h75 (AW.next hb) 3)
        fun v77 => vSl v77 fun p78 m79 m80 => bC (decide ((↑m79 : Int) > 0)) (Q (Value.bool false) h75) (oB (AW.rd h75 (AW.next hb) 3) fun v81 => vSl v81 fun p82 m83 m84 => EvQ P
        f_action_right [Value.slice p82 m83 m84, Value.int IntKind.i64 (IntKind.wrap IntKind.i64 ((d : Int) + 1))] h75 fun v85 h86 => vBool v85 fun b87 => bC (!b87) (Q (Value.bool false)
        h86) (unitAt P f_action_right 2 [1, 7, 8, 9] [Value.int IntKind.i64 (d : Int), Value.slice a (pre.app (.cons op args kk body rest)).len cap, Value.int IntKind.i64 ((pre.app (.cons op
        args kk body rest)).len : Int), Value.int IntKind.i64 (IntKind.wrap IntKind.i64 ((pre.len : Int) + 1))] h86 Q))) (oB (AW.rd h75 (AW.next hb) 3) fun v88 => vSl v88 fun p89 m90 m91 =>
        EvQ P f_action_right [Value.slice p89 m90 m91, Value.int IntKind.i64 (IntKind.wrap IntKind.i64 ((d : Int) + 1))] h75 fun v92 h93 => vBool v92 fun b94 => bC (!b94) (Q (Value.bool
        false) h93) (unitAt P f_action_right 2 [1, 7, 8, 9] [Value.int IntKind.i64 (d : Int), Value.slice a (pre.app (.cons op args kk body rest)).len cap, Value.int IntKind.i64 ((pre.app
        (.cons op args kk body rest)).len : Int), Value.int IntKind.i64 (IntKind.wrap IntKind.i64 ((pre.len : Int) + 1))] h93 Q))) := by
      intro hf
      refine w_rd O W 0 (j := 0) rfl rfl ?_
      simp only [oB_some, bC_true, bC_false, vInt_int, vBool_bool, vStr_string, vPtr_pointer, vSl_slice, vMap_map, vFun_func, vAgg_agg, vTup_tuple, vIfc_nil, vIfc_iface, lC_cons, lN_nil, aP_some, shO_none, shO_some, Option.isNone_none, Option.isNone_some, Bool.not_true, Bool.not_false]
      refine opens_ok ?_
      simp only [oB_some, bC_true, bC_false, vInt_int, vBool_bool, vStr_string, vPtr_pointer, vSl_slice, vMap_map, vFun_func, vAgg_agg, vTup_tuple, vIfc_nil, vIfc_iface, lC_cons, lN_nil, aP_some, shO_none, shO_some, Option.isNone_none, Option.isNone_some, Bool.not_true, Bool.not_false]
      refine bC_iff (fun ho => ?_) (fun ho => ?_)
      · refine bC_iff (fun e => no O F1 ?_) (fun e => ?_)
        · have e : d = 8 := by have := eqI e; omega
          simp only [F.right, ho, e, decide_true, Bool.and_true, Bool.not_true, Bool.and_false, Bool.false_and]
        have e : d ≠ 8 := by have := neI e; omega
        refine w_rd O W 0 (j := 0) rfl rfl ?_
        simp only [oB_some, bC_true, bC_false, vInt_int, vBool_bool, vStr_string, vPtr_pointer, vSl_slice, vMap_map, vFun_func, vAgg_agg, vTup_tuple, vIfc_nil, vIfc_iface, lC_cons, lN_nil, aP_some, shO_none, shO_some, Option.isNone_none, Option.isNone_some, Bool.not_true, Bool.not_false]
        refine opens_ok ?_
        rw [ho]
        simp only [oB_some, bC_true, bC_false, vInt_int, vBool_bool, vStr_string, vPtr_pointer, vSl_slice, vMap_map, vFun_func, vAgg_agg, vTup_tuple, vIfc_nil, vIfc_iface, lC_cons, lN_nil, aP_some, shO_none, shO_some, Option.isNone_none, Option.isNone_some, Bool.not_true, Bool.not_false]
        exact tl hf (fun _ => e) (fun x => by rw [ho] at x; cases x)
      · refine w_rd O W 0 (j := 0) rfl rfl ?_
        simp only [oB_some, bC_true, bC_false, vInt_int, vBool_bool, vStr_string, vPtr_pointer, vSl_slice, vMap_map, vFun_func, vAgg_agg, vTup_tuple, vIfc_nil, vIfc_iface, lC_cons, lN_nil, aP_some, shO_none, shO_some, Option.isNone_none, Option.isNone_some, Bool.not_true, Bool.not_false]
        refine opens_ok ?_
        rw [ho]
        simp only [oB_some, bC_true, bC_false, vInt_int, vBool_bool, vStr_string, vPtr_pointer, vSl_slice, vMap_map, vFun_func, vAgg_agg, vTup_tuple, vIfc_nil, vIfc_iface, lC_cons, lN_nil, aP_some, shO_none, shO_some, Option.isNone_none, Option.isNone_some, Bool.not_true, Bool.not_false]
        refine w_rd O W 0 (j := 3) rfl rfl ?_
        simp only [oB_some, bC_true, bC_false, vInt_int, vBool_bool, vStr_string, vPtr_pointer, vSl_slice, vMap_map, vFun_func, vAgg_agg, vTup_tuple, vIfc_nil, vIfc_iface, lC_cons, lN_nil, aP_some, shO_none, shO_some, Option.isNone_none, Option.isNone_some, Bool.not_true, Bool.not_false]
        refine bC_iff (fun e => no O F1 ?_) (fun e => ?_)
        · have e : body.len ≠ 0 := by have := of_decide_eq_true e; omega
          simp only [F.right, ho, decide_eq_false e, Bool.or_false, Bool.and_false, Bool.false_and]
        have e : body.len = 0 := by have := of_decide_eq_false e; omega
        exact tl hf (fun x => by rw [ho] at x; cases x) (fun _ => e)
    repeat (first | refine ⟨rfl, ?_⟩ | refine ⟨trivial, ?_⟩ | simp only [oB_some, bC_true, bC_false, vInt_int, vBool_bool, vStr_string, vPtr_pointer, vSl_slice, vMap_map, vFun_func, vAgg_agg, vTup_tuple, vIfc_nil, vIfc_iface, lC_cons, lN_nil, aP_some, shO_none, shO_some, Option.isNone_none, Option.isNone_some, Bool.not_true, Bool.not_false] | refine w_rd (by assumption) (by assumption) 0 (by rfl) (by rfl) ?_ | refine w_wrL (by assumption) (by assumption) 0 (by rfl) (Nat.le_of_ble_eq_true (by rfl)) (by rfl) fun h ρz O W => ?_ | refine w_wr (by assumption) (by assumption) 0 (by rfl) (Nat.le_of_ble_eq_true (by rfl)) (by rfl) fun h ρz O W => ?_)
    have base : (decide (1 ≤ op) && decide (op ≤ 12) && fitsM op args.length && decide (0 ≤ kk) && decide (kk ≤ 1000)) = true := by
      rw [decide_eq_true (show 1 ≤ op by omega), decide_eq_true (show op ≤ 12 by omega), x3, decide_eq_true (show 0 ≤ kk by omega), decide_eq_true (show kk ≤ 1000 by omega)]; rfl
    refine bC_iff (fun e => ?_) (fun e => ?_)
    · have e := of_decide_eq_true e
      repeat (first | refine ⟨rfl, ?_⟩ | refine ⟨trivial, ?_⟩ | simp only [oB_some, bC_true, bC_false, vInt_int, vBool_bool, vStr_string, vPtr_pointer, vSl_slice, vMap_map, vFun_func, vAgg_agg, vTup_tuple, vIfc_nil, vIfc_iface, lC_cons, lN_nil, aP_some, shO_none, shO_some, Option.isNone_none, Option.isNone_some, Bool.not_true, Bool.not_false] | refine w_rd (by assumption) (by assumption) 0 (by rfl) (by rfl) ?_ | refine w_wrL (by assumption) (by assumption) 0 (by rfl) (Nat.le_of_ble_eq_true (by rfl)) (by rfl) fun h ρz O W => ?_ | refine w_wr (by assumption) (by assumption) 0 (by rfl) (Nat.le_of_ble_eq_true (by rfl)) (by rfl) fun h ρz O W => ?_)
      refine bC_iff (fun e2 => no O F1 ?_) (fun e2 => ?_)
      · have e2 : op ≠ 10 := by simpa using e2
        simp only [F.right, F.fine, decide_eq_false (show ¬ kk = 0 by omega), decide_eq_false e2, Bool.or_self, Bool.and_false, Bool.false_and]
      have e2 : op = 10 := by simpa using e2
      exact after (by unfold F.fine; rw [base, decide_eq_true e2, Bool.or_true]; rfl)
    · have e := of_decide_eq_false e
      exact after (by unfold F.fine; rw [base, decide_eq_true (show kk = 0 by omega), Bool.true_or]; rfl)
theorem right_ok (O : Own h μ ρ) {f : F} {a : Option Addr} {cap : Nat} (X : Ly ρ f a) (hs : f.size ≤ 1000000000) (hq : RdQ Q ρ (.bool (f.right 0))) : EvQ P f_action_right [.slice a f.len cap, .int .i64 0] h Q := by
  obtain ⟨c, v, l⟩ := X
  have := F.size_more f
  exact r_action_right (right_loop f O (pre := .nil) (d := 0) v l (show f.len ≤ _ by omega) (by omega) hs hq)
theorem may_ok (O : Own h μ ρ) {f : F} {a : Option Addr} {cap : Nat} (X : Ly ρ f a) (hs : f.size ≤ 1000000000) (hq : RdQ Q ρ (.bool f.may)) : EvQ P f_action_May [.slice a f.len cap] h Q := by
  refine r_action_May ?_
  refine right_ok O X hs fun h2 μ2 ρ2 O2 F2 => ?_
  simp only [oB_some, bC_true, bC_false, vInt_int, vBool_bool, vStr_string, vPtr_pointer, vSl_slice, vMap_map, vFun_func, vAgg_agg, vTup_tuple, vIfc_nil, vIfc_iface, lC_cons, lN_nil, aP_some, shO_none, shO_some, Option.isNone_none, Option.isNone_some, Bool.not_true, Bool.not_false]
  refine bC_iff (fun e => ?_) (fun e => ?_)
  · refine size_ok O2 (X.keep F2) hs fun h3 μ3 ρ3 O3 F3 => ?_
    simp only [oB_some, bC_true, bC_false, vInt_int, vBool_bool, vStr_string, vPtr_pointer, vSl_slice, vMap_map, vFun_func, vAgg_agg, vTup_tuple, vIfc_nil, vIfc_iface, lC_cons, lN_nil, aP_some, shO_none, shO_some, Option.isNone_none, Option.isNone_some, Bool.not_true, Bool.not_false]
    have := hq _ _ _ O3 (F2.trans F3)
    unfold F.may at this
    rw [e, Bool.true_and] at this
    rw [show decide ((f.size : Int) ≤ 256) = decide (f.size ≤ 256) from decide_eq_decide.2 (by omega)]
    exact this
  · have := hq _ _ _ O2 F2
    unfold F.may at this
    rw [e, Bool.false_and] at this
    exact this
end Go.Proofs.YtgdkekdedgkglaaDoor
end
