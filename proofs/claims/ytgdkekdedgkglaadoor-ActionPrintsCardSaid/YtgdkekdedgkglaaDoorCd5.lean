/- A deterministic heap for the model, proved sound, and walks of the program over it: part 11. No condition. -/
import Derived.Test.YtgdkekdedgkglaaDoorAb1
import Derived.Test.YtgdkekdedgkglaaDoorAb2
import Derived.Test.YtgdkekdedgkglaaDoorAb3
import Derived.Test.YtgdkekdedgkglaaDoorAb4
import Derived.Test.YtgdkekdedgkglaaDoorAb5
import Derived.Test.YtgdkekdedgkglaaDoorAb6
import Derived.Test.YtgdkekdedgkglaaDoorCd2
import Derived.Test.YtgdkekdedgkglaaDoorCd3
import Derived.Test.YtgdkekdedgkglaaDoorCd4
import Derived.Test.YtgdkekdedgkglaaDoorCd1
set_option linter.unusedVariables false
set_option linter.unusedSimpArgs false
set_option linter.unusedSectionVars false
section
/- What may be, and the lines of what may be, as said. -/
namespace Go.Proofs.YtgdkekdedgkglaaDoor
open Go.Abs Go.Abs.Fo
set_option maxRecDepth 100000
attribute [local irreducible] unitAt EvQ
variable {h : AW} {μ : Paint} {ρ ρ' : Store} {Q : Value → AW → Prop}
theorem rsize_loop : ∀ (rest : F) {h : AW} {μ : Paint} {ρ : Store} {Q : Value → AW → Prop}, Own h μ ρ → ∀ {pre : F} {a : Option Addr} {c : List Value} {cap n : Nat}, Vw ρ [] a c → Lies (Vw ρ []) (pre.app rest) c → (pre.app rest).len ≤ 140737488355328 → n + rest.size ≤ 1000000000 →
    RdQ Q ρ (.int .i64 ((n + rest.size : Nat) : Int)) → unitAt P f_brickyardref13_Size 3 [0, 3, 4] [.slice a (pre.app rest).len cap, .int .i64 (n : Int), .int .i64 (pre.len : Int)] h Q
  | .nil, h, μ, ρ, Q, O, pre, a, c, cap, n, X, L, hl, hn, hq => by
    refine r_brickyardref13_Size_3 ?_
    rw [F.app_nil, geI (Nat.le_refl _)]
    simp only [oB_some, bC_true, bC_false, vInt_int, vBool_bool, vStr_string, vPtr_pointer, vSl_slice, vMap_map, vFun_func, vAgg_agg, vTup_tuple, vIfc_nil, vIfc_iface, lC_cons, lN_nil, aP_some, shO_none, shO_some, Option.isNone_none, Option.isNone_some, Bool.not_true, Bool.not_false]
    exact hq.now O
  | .cons op args kk body rest, h, μ, ρ, Q, O, pre, a, c, cap, n, X, L, hl, hn, hq => by
    have hlt : pre.len < (pre.app (.cons op args kk body rest)).len := app_lt
    simp only [F.size] at hn hq
    have hb := F.size_more body
    refine r_brickyardref13_Size_3 ?_
    rw [ltI hlt]
    simp only [oB_some, bC_true, bC_false, vInt_int, vBool_bool, vStr_string, vPtr_pointer, vSl_slice, vMap_map, vFun_func, vAgg_agg, vTup_tuple, vIfc_nil, vIfc_iface, lC_cons, lN_nil, aP_some, shO_none, shO_some, Option.isNone_none, Option.isNone_some, Bool.not_true, Bool.not_false]
    refine st_open O X L rfl rfl fun i off aa ac ba bc va la S => ?_
    refine oB_bind (S O Fra.refl).r3 ?_
    simp only [oB_some, bC_true, bC_false, vInt_int, vBool_bool, vStr_string, vPtr_pointer, vSl_slice, vMap_map, vFun_func, vAgg_agg, vTup_tuple, vIfc_nil, vIfc_iface, lC_cons, lN_nil, aP_some, shO_none, shO_some, Option.isNone_none, Option.isNone_some, Bool.not_true, Bool.not_false]
    obtain ⟨bcells, v2, l2⟩ := la
    refine r_brickyardref13_Size ?_
    refine rsize_loop body O (pre := .nil) (n := 0) v2 l2 (show body.len ≤ _ by omega) (by omega) fun h2 μ2 ρ2 O2 F2 => ?_
    simp only [oB_some, bC_true, bC_false, vInt_int, vBool_bool, vStr_string, vPtr_pointer, vSl_slice, vMap_map, vFun_func, vAgg_agg, vTup_tuple, vIfc_nil, vIfc_iface, lC_cons, lN_nil, aP_some, shO_none, shO_some, Option.isNone_none, Option.isNone_some, Bool.not_true, Bool.not_false]
    rw [show IntKind.wrap .i64 ((n : Int) + IntKind.wrap .i64 (1 + ((0 + body.size : Nat) : Int))) = ((n + (1 + body.size) : Nat) : Int) from by
      rw [wrap_small (n := 1 + ((0 + body.size : Nat) : Int)) (by omega) (by omega), wrap_small (n := (n : Int) + (1 + ((0 + body.size : Nat) : Int))) (by omega) (by omega)]; omega, wrapS (by omega)]
    obtain ⟨e3, e4⟩ := snocs pre op args kk body
    have := rsize_loop rest (Q := Q) O2 (pre := pre.snoc op args kk body) (n := n + (1 + body.size)) (cap := cap) (X.keep F2) (by rw [e3]; exact L.mono fun _ _ x => x.keep F2) (by rw [e3]; exact hl) (by omega) (by
      have := hq.keep F2
      rw [← Nat.add_assoc] at this; exact this)
    rw [e3, e4] at this
    exact this
theorem rsize_ok (O : Own h μ ρ) {f : F} {a : Option Addr} {cap : Nat} (X : Ly ρ f a) (hs : f.size ≤ 1000000000) (hq : RdQ Q ρ (.int .i64 (f.size : Int))) : EvQ P f_brickyardref13_Size [.slice a f.len cap] h Q := by
  obtain ⟨c, v, l⟩ := X
  have := F.size_more f
  exact r_brickyardref13_Size (rsize_loop f O (pre := .nil) (n := 0) v l (show f.len ≤ _ by omega) (by omega) (by rw [Nat.zero_add]; exact hq))
theorem rdeep_loop : ∀ (rest : F) {h : AW} {μ : Paint} {ρ : Store} {Q : Value → AW → Prop}, Own h μ ρ → ∀ {pre : F} {a : Option Addr} {c : List Value} {cap n : Nat}, Vw ρ [] a c → Lies (Vw ρ []) (pre.app rest) c → (pre.app rest).len ≤ 140737488355328 → n ≤ 1000000000 → rest.size ≤ 1000000000 →
    RdQ Q ρ (.int .i64 ((max n rest.deep : Nat) : Int)) → unitAt P f_brickyardref13_Deep 3 [0, 3, 4] [.slice a (pre.app rest).len cap, .int .i64 (n : Int), .int .i64 (pre.len : Int)] h Q
  | .nil, h, μ, ρ, Q, O, pre, a, c, cap, n, X, L, hl, hn, hs, hq => by
    refine r_brickyardref13_Deep_3 ?_
    rw [F.app_nil, geI (Nat.le_refl _)]
    simp only [oB_some, bC_true, bC_false, vInt_int, vBool_bool, vStr_string, vPtr_pointer, vSl_slice, vMap_map, vFun_func, vAgg_agg, vTup_tuple, vIfc_nil, vIfc_iface, lC_cons, lN_nil, aP_some, shO_none, shO_some, Option.isNone_none, Option.isNone_some, Bool.not_true, Bool.not_false]
    simp only [F.deep, Nat.max_zero] at hq
    exact hq.now O
  | .cons op args kk body rest, h, μ, ρ, Q, O, pre, a, c, cap, n, X, L, hl, hn, hs, hq => by
    have hlt : pre.len < (pre.app (.cons op args kk body rest)).len := app_lt
    simp only [F.deep, F.size] at hs hq
    have hb := F.size_more body
    have hd := F.deep_size body
    obtain ⟨e3, e4⟩ := snocs pre op args kk body
    refine r_brickyardref13_Deep_3 ?_
    rw [ltI hlt]
    simp only [oB_some, bC_true, bC_false, vInt_int, vBool_bool, vStr_string, vPtr_pointer, vSl_slice, vMap_map, vFun_func, vAgg_agg, vTup_tuple, vIfc_nil, vIfc_iface, lC_cons, lN_nil, aP_some, shO_none, shO_some, Option.isNone_none, Option.isNone_some, Bool.not_true, Bool.not_false]
    refine st_open O X L rfl rfl fun i off aa ac ba bc va la S => ?_
    refine oB_bind (S O Fra.refl).r0 ?_
    simp only [oB_some, bC_true, bC_false, vInt_int, vBool_bool, vStr_string, vPtr_pointer, vSl_slice, vMap_map, vFun_func, vAgg_agg, vTup_tuple, vIfc_nil, vIfc_iface, lC_cons, lN_nil, aP_some, shO_none, shO_some, Option.isNone_none, Option.isNone_some, Bool.not_true, Bool.not_false]
    refine rOpens_ok ?_
    simp only [oB_some, bC_true, bC_false, vInt_int, vBool_bool, vStr_string, vPtr_pointer, vSl_slice, vMap_map, vFun_func, vAgg_agg, vTup_tuple, vIfc_nil, vIfc_iface, lC_cons, lN_nil, aP_some, shO_none, shO_some, Option.isNone_none, Option.isNone_some, Bool.not_true, Bool.not_false]
    refine bC_iff (fun e => ?_) (fun e => ?_)
    · rw [if_pos e] at hq
      refine st_open O X L rfl rfl fun i off aa ac ba bc va la S => ?_
      refine oB_bind (S O Fra.refl).r3 ?_
      simp only [oB_some, bC_true, bC_false, vInt_int, vBool_bool, vStr_string, vPtr_pointer, vSl_slice, vMap_map, vFun_func, vAgg_agg, vTup_tuple, vIfc_nil, vIfc_iface, lC_cons, lN_nil, aP_some, shO_none, shO_some, Option.isNone_none, Option.isNone_some, Bool.not_true, Bool.not_false]
      obtain ⟨bcells, v2, l2⟩ := la
      refine r_brickyardref13_Deep ?_
      refine rdeep_loop body O (pre := .nil) (n := 0) v2 l2 (show body.len ≤ _ by omega) (by omega) (by omega) fun h2 μ2 ρ2 O2 F2 => ?_
      rw [Nat.zero_max]
      simp only [oB_some, bC_true, bC_false, vInt_int, vBool_bool, vStr_string, vPtr_pointer, vSl_slice, vMap_map, vFun_func, vAgg_agg, vTup_tuple, vIfc_nil, vIfc_iface, lC_cons, lN_nil, aP_some, shO_none, shO_some, Option.isNone_none, Option.isNone_some, Bool.not_true, Bool.not_false]
      rw [show IntKind.wrap .i64 (1 + (body.deep : Int)) = ((1 + body.deep : Nat) : Int) from by rw [wrap_small (n := 1 + (body.deep : Int)) (by omega) (by omega)]; omega, imax, wrapS (by omega)]
      have := rdeep_loop rest (Q := Q) O2 (pre := pre.snoc op args kk body) (n := max n (1 + body.deep)) (cap := cap) (X.keep F2) (by rw [e3]; exact L.mono fun _ _ x => x.keep F2) (by rw [e3]; exact hl) (by omega) (by omega) (by
        have := hq.keep F2
        rw [← Nat.max_assoc] at this; exact this)
      rw [e3, e4] at this
      exact this
    · rw [if_neg (by simp [e]), Nat.zero_max] at hq
      rw [wrapS (by omega)]
      have := rdeep_loop rest (Q := Q) O (pre := pre.snoc op args kk body) (n := n) (cap := cap) X (by rw [e3]; exact L) (by rw [e3]; exact hl) hn (by omega) hq
      rw [e3, e4] at this
      exact this
theorem rdeep_ok (O : Own h μ ρ) {f : F} {a : Option Addr} {cap : Nat} (X : Ly ρ f a) (hs : f.size ≤ 1000000000) (hq : RdQ Q ρ (.int .i64 (f.deep : Int))) : EvQ P f_brickyardref13_Deep [.slice a f.len cap] h Q := by
  obtain ⟨c, v, l⟩ := X
  have := F.size_more f
  exact r_brickyardref13_Deep (rdeep_loop f O (pre := .nil) (n := 0) v l (show f.len ≤ _ by omega) (by omega) hs (by rw [Nat.zero_max]; exact hq))
theorem word_nil {op : Int} : wordM op = ⟨#[]⟩ ↔ ¬ (1 ≤ op ∧ op ≤ 12) := by
  constructor
  · intro h ⟨h1, h2⟩
    obtain ⟨k, rfl⟩ : ∃ k : Nat, op = k := ⟨op.toNat, by omega⟩
    have : ∀ k : Fin 13, 1 ≤ k.1 → wordM (k.1 : Int) ≠ ⟨#[]⟩ := by decide
    exact this ⟨k, by omega⟩ (by simp only; omega) h
  · intro h
    cases op with
    | negSucc _ => rfl
    | ofNat n =>
      show (kinds[n]?).getD e0 = _
      by_cases hn : n < 13
      · have : n = 0 := by
          have h : ¬ (1 ≤ (n : Int) ∧ (n : Int) ≤ 12) := h
          omega
        subst this
        rfl
      · rw [List.getElem?_eq_none (show kinds.length ≤ n by simp [kinds]; omega)]
        rfl
theorem one_loop : ∀ (rest : F) {h : AW} {μ : Paint} {ρ : Store} {Q : Value → AW → Prop}, Own h μ ρ → ∀ {pre : F} {a : Option Addr} {c : List Value} {cap : Nat}, Vw ρ [] a c → Lies (Vw ρ []) (pre.app rest) c → (pre.app rest).len ≤ 140737488355328 → rest.size ≤ 1000000000 →
    RdQ Q ρ (.bool rest.wf) → unitAt P f_brickyardref13_one 2 [0, 3] [.slice a (pre.app rest).len cap, .int .i64 (pre.len : Int)] h Q
  | .nil, h, μ, ρ, Q, O, pre, a, c, cap, X, L, hl, hs, hq => by
    refine r_brickyardref13_one_2 ?_
    rw [F.app_nil, geI (Nat.le_refl _)]
    simp only [oB_some, bC_true, bC_false, vInt_int, vBool_bool, vStr_string, vPtr_pointer, vSl_slice, vMap_map, vFun_func, vAgg_agg, vTup_tuple, vIfc_nil, vIfc_iface, lC_cons, lN_nil, aP_some, shO_none, shO_some, Option.isNone_none, Option.isNone_some, Bool.not_true, Bool.not_false]
    exact hq.now O
  | .cons op args kk body rest, hb, μ, ρb, Q, Ob, pre, a, c, cap, X, L, hl, hs, hq => by
    have hlt : pre.len < (pre.app (.cons op args kk body rest)).len := app_lt
    simp only [F.size] at hs
    have hbs := F.size_more body
    have hrs := F.size_more rest
    obtain ⟨e3, e4⟩ := snocs pre op args kk body
    have no : ∀ {h' : AW} {μ' : Paint} {ρ' : Store}, Own h' μ' ρ' → Fra [] ρb ρ' → F.wf (.cons op args kk body rest) = false → Q (.bool false) h' := fun O' F' e => by
      have := hq _ _ _ O' F'
      rw [e] at this; exact this
    refine r_brickyardref13_one_2 ?_
    rw [ltI hlt]
    simp only [oB_some, bC_true, bC_false, vInt_int, vBool_bool, vStr_string, vPtr_pointer, vSl_slice, vMap_map, vFun_func, vAgg_agg, vTup_tuple, vIfc_nil, vIfc_iface, lC_cons, lN_nil, aP_some, shO_none, shO_some, Option.isNone_none, Option.isNone_some, Bool.not_true, Bool.not_false]
    refine st_copy Ob X L rfl rfl fun h μ ρ c1 aa ac ba bc O W hc1 F1 va la => ?_
    repeat (first | refine ⟨rfl, ?_⟩ | refine ⟨trivial, ?_⟩ | simp only [oB_some, bC_true, bC_false, vInt_int, vBool_bool, vStr_string, vPtr_pointer, vSl_slice, vMap_map, vFun_func, vAgg_agg, vTup_tuple, vIfc_nil, vIfc_iface, lC_cons, lN_nil, aP_some, shO_none, shO_some, Option.isNone_none, Option.isNone_some, Bool.not_true, Bool.not_false] | refine w_rd (by assumption) (by assumption) 0 (by rfl) (by rfl) ?_ | refine w_wrL (by assumption) (by assumption) 0 (by rfl) (Nat.le_of_ble_eq_true (by rfl)) (by rfl) fun h ρz O W => ?_ | refine w_wr (by assumption) (by assumption) 0 (by rfl) (Nat.le_of_ble_eq_true (by rfl)) (by rfl) fun h ρz O W => ?_)
    refine rWord_ok ?_
    simp only [oB_some, bC_true, bC_false, vInt_int, vBool_bool, vStr_string, vPtr_pointer, vSl_slice, vMap_map, vFun_func, vAgg_agg, vTup_tuple, vIfc_nil, vIfc_iface, lC_cons, lN_nil, aP_some, shO_none, shO_some, Option.isNone_none, Option.isNone_some, Bool.not_true, Bool.not_false]
    refine bC_iff (fun e => no O F1 ?_) (fun x1 => ?_)
    · have e := word_nil.1 (bEq_iff.1 e)
      have : (decide (1 ≤ op) && decide (op ≤ 12)) = false := by
        rw [Bool.and_eq_false_iff, decide_eq_false_iff_not, decide_eq_false_iff_not]; omega
      simp only [F.wf, F.fine, this, Bool.false_and]
    have x1 : 1 ≤ op ∧ op ≤ 12 := by
      by_cases x : 1 ≤ op ∧ op ≤ 12
      · exact x
      · exact absurd (word_nil.2 x) (bEq_false.1 x1)
    repeat (first | refine ⟨rfl, ?_⟩ | refine ⟨trivial, ?_⟩ | simp only [oB_some, bC_true, bC_false, vInt_int, vBool_bool, vStr_string, vPtr_pointer, vSl_slice, vMap_map, vFun_func, vAgg_agg, vTup_tuple, vIfc_nil, vIfc_iface, lC_cons, lN_nil, aP_some, shO_none, shO_some, Option.isNone_none, Option.isNone_some, Bool.not_true, Bool.not_false] | refine w_rd (by assumption) (by assumption) 0 (by rfl) (by rfl) ?_ | refine w_wrL (by assumption) (by assumption) 0 (by rfl) (Nat.le_of_ble_eq_true (by rfl)) (by rfl) fun h ρz O W => ?_ | refine w_wr (by assumption) (by assumption) 0 (by rfl) (Nat.le_of_ble_eq_true (by rfl)) (by rfl) fun h ρz O W => ?_)
    refine rArgs_ok ?_
    simp only [oB_some, bC_true, bC_false, vInt_int, vBool_bool, vStr_string, vPtr_pointer, vSl_slice, vMap_map, vFun_func, vAgg_agg, vTup_tuple, vIfc_nil, vIfc_iface, lC_cons, lN_nil, aP_some, shO_none, shO_some, Option.isNone_none, Option.isNone_some, Bool.not_true, Bool.not_false]
    refine bC_iff (fun x2 => ?_) (fun x2 => ?_)
    · have x2 := of_decide_eq_true x2
      repeat (first | refine ⟨rfl, ?_⟩ | refine ⟨trivial, ?_⟩ | simp only [oB_some, bC_true, bC_false, vInt_int, vBool_bool, vStr_string, vPtr_pointer, vSl_slice, vMap_map, vFun_func, vAgg_agg, vTup_tuple, vIfc_nil, vIfc_iface, lC_cons, lN_nil, aP_some, shO_none, shO_some, Option.isNone_none, Option.isNone_some, Bool.not_true, Bool.not_false] | refine w_rd (by assumption) (by assumption) 0 (by rfl) (by rfl) ?_ | refine w_wrL (by assumption) (by assumption) 0 (by rfl) (Nat.le_of_ble_eq_true (by rfl)) (by rfl) fun h ρz O W => ?_ | refine w_wr (by assumption) (by assumption) 0 (by rfl) (Nat.le_of_ble_eq_true (by rfl)) (by rfl) fun h ρz O W => ?_)
      refine rArgs_ok ?_
      repeat (first | refine ⟨rfl, ?_⟩ | refine ⟨trivial, ?_⟩ | simp only [oB_some, bC_true, bC_false, vInt_int, vBool_bool, vStr_string, vPtr_pointer, vSl_slice, vMap_map, vFun_func, vAgg_agg, vTup_tuple, vIfc_nil, vIfc_iface, lC_cons, lN_nil, aP_some, shO_none, shO_some, Option.isNone_none, Option.isNone_some, Bool.not_true, Bool.not_false] | refine w_rd (by assumption) (by assumption) 0 (by rfl) (by rfl) ?_ | refine w_wrL (by assumption) (by assumption) 0 (by rfl) (Nat.le_of_ble_eq_true (by rfl)) (by rfl) fun h ρz O W => ?_ | refine w_wr (by assumption) (by assumption) 0 (by rfl) (Nat.le_of_ble_eq_true (by rfl)) (by rfl) fun h ρz O W => ?_)
      refine bC_iff (fun e => ?_) (fun e => ?_)
      · have e : argsM op ≠ args.length := by simpa using e
        repeat (first | refine ⟨rfl, ?_⟩ | refine ⟨trivial, ?_⟩ | simp only [oB_some, bC_true, bC_false, vInt_int, vBool_bool, vStr_string, vPtr_pointer, vSl_slice, vMap_map, vFun_func, vAgg_agg, vTup_tuple, vIfc_nil, vIfc_iface, lC_cons, lN_nil, aP_some, shO_none, shO_some, Option.isNone_none, Option.isNone_some, Bool.not_true, Bool.not_false] | refine w_rd (by assumption) (by assumption) 0 (by rfl) (by rfl) ?_ | refine w_wrL (by assumption) (by assumption) 0 (by rfl) (Nat.le_of_ble_eq_true (by rfl)) (by rfl) fun h ρz O W => ?_ | refine w_wr (by assumption) (by assumption) 0 (by rfl) (Nat.le_of_ble_eq_true (by rfl)) (by rfl) fun h ρz O W => ?_)
        have : fitsM op args.length = false := by
          unfold fitsM
          rw [decide_eq_false (show ¬ argsM op < 0 by omega), decide_eq_false e]; rfl
        exact no O F1 (by simp only [F.wf, F.fine, this, Bool.false_and, Bool.and_false])
      · have e : argsM op = args.length := by simpa using e
        have x3 : fitsM op args.length = true := by
          unfold fitsM
          rw [decide_eq_true e, Bool.or_true]
        repeat (first | refine ⟨rfl, ?_⟩ | refine ⟨trivial, ?_⟩ | simp only [oB_some, bC_true, bC_false, vInt_int, vBool_bool, vStr_string, vPtr_pointer, vSl_slice, vMap_map, vFun_func, vAgg_agg, vTup_tuple, vIfc_nil, vIfc_iface, lC_cons, lN_nil, aP_some, shO_none, shO_some, Option.isNone_none, Option.isNone_some, Bool.not_true, Bool.not_false] | refine w_rd (by assumption) (by assumption) 0 (by rfl) (by rfl) ?_ | refine w_wrL (by assumption) (by assumption) 0 (by rfl) (Nat.le_of_ble_eq_true (by rfl)) (by rfl) fun h ρz O W => ?_ | refine w_wr (by assumption) (by assumption) 0 (by rfl) (Nat.le_of_ble_eq_true (by rfl)) (by rfl) fun h ρz O W => ?_)
        refine bC_iff (fun e => ?_) (fun x4 => ?_)
        · have e := of_decide_eq_true e
          repeat (first | refine ⟨rfl, ?_⟩ | refine ⟨trivial, ?_⟩ | simp only [oB_some, bC_true, bC_false, vInt_int, vBool_bool, vStr_string, vPtr_pointer, vSl_slice, vMap_map, vFun_func, vAgg_agg, vTup_tuple, vIfc_nil, vIfc_iface, lC_cons, lN_nil, aP_some, shO_none, shO_some, Option.isNone_none, Option.isNone_some, Bool.not_true, Bool.not_false] | refine w_rd (by assumption) (by assumption) 0 (by rfl) (by rfl) ?_ | refine w_wrL (by assumption) (by assumption) 0 (by rfl) (Nat.le_of_ble_eq_true (by rfl)) (by rfl) fun h ρz O W => ?_ | refine w_wr (by assumption) (by assumption) 0 (by rfl) (Nat.le_of_ble_eq_true (by rfl)) (by rfl) fun h ρz O W => ?_)
          exact no O F1 (by simp only [F.wf, F.fine, decide_eq_false (show ¬ 0 ≤ kk by omega), Bool.false_and, Bool.and_false])
        have x4 := of_decide_eq_false x4
        repeat (first | refine ⟨rfl, ?_⟩ | refine ⟨trivial, ?_⟩ | simp only [oB_some, bC_true, bC_false, vInt_int, vBool_bool, vStr_string, vPtr_pointer, vSl_slice, vMap_map, vFun_func, vAgg_agg, vTup_tuple, vIfc_nil, vIfc_iface, lC_cons, lN_nil, aP_some, shO_none, shO_some, Option.isNone_none, Option.isNone_some, Bool.not_true, Bool.not_false] | refine w_rd (by assumption) (by assumption) 0 (by rfl) (by rfl) ?_ | refine w_wrL (by assumption) (by assumption) 0 (by rfl) (Nat.le_of_ble_eq_true (by rfl)) (by rfl) fun h ρz O W => ?_ | refine w_wr (by assumption) (by assumption) 0 (by rfl) (Nat.le_of_ble_eq_true (by rfl)) (by rfl) fun h ρz O W => ?_)
        refine bC_iff (fun e => ?_) (fun x5 => ?_)
        · have e := of_decide_eq_true e
          repeat (first | refine ⟨rfl, ?_⟩ | refine ⟨trivial, ?_⟩ | simp only [oB_some, bC_true, bC_false, vInt_int, vBool_bool, vStr_string, vPtr_pointer, vSl_slice, vMap_map, vFun_func, vAgg_agg, vTup_tuple, vIfc_nil, vIfc_iface, lC_cons, lN_nil, aP_some, shO_none, shO_some, Option.isNone_none, Option.isNone_some, Bool.not_true, Bool.not_false] | refine w_rd (by assumption) (by assumption) 0 (by rfl) (by rfl) ?_ | refine w_wrL (by assumption) (by assumption) 0 (by rfl) (Nat.le_of_ble_eq_true (by rfl)) (by rfl) fun h ρz O W => ?_ | refine w_wr (by assumption) (by assumption) 0 (by rfl) (Nat.le_of_ble_eq_true (by rfl)) (by rfl) fun h ρz O W => ?_)
          exact no O F1 (by simp only [F.wf, F.fine, decide_eq_false (show ¬ kk ≤ 1000 by omega), Bool.false_and, Bool.and_false])
        have x5 := of_decide_eq_false x5
        have base : (decide (1 ≤ op) && decide (op ≤ 12) && fitsM op args.length && decide (0 ≤ kk) && decide (kk ≤ 1000)) = true := by
          rw [decide_eq_true (show 1 ≤ op by omega), decide_eq_true (show op ≤ 12 by omega), x3, decide_eq_true (show 0 ≤ kk by omega), decide_eq_true (show kk ≤ 1000 by omega)]; rfl
        repeat (first | refine ⟨rfl, ?_⟩ | refine ⟨trivial, ?_⟩ | simp only [oB_some, bC_true, bC_false, vInt_int, vBool_bool, vStr_string, vPtr_pointer, vSl_slice, vMap_map, vFun_func, vAgg_agg, vTup_tuple, vIfc_nil, vIfc_iface, lC_cons, lN_nil, aP_some, shO_none, shO_some, Option.isNone_none, Option.isNone_some, Bool.not_true, Bool.not_false] | refine w_rd (by assumption) (by assumption) 0 (by rfl) (by rfl) ?_ | refine w_wrL (by assumption) (by assumption) 0 (by rfl) (Nat.le_of_ble_eq_true (by rfl)) (by rfl) fun h ρz O W => ?_ | refine w_wr (by assumption) (by assumption) 0 (by rfl) (Nat.le_of_ble_eq_true (by rfl)) (by rfl) fun h ρz O W => ?_)
        refine bC_iff (fun e => ?_) (fun e => ?_)
        · have e : op ≠ 10 := by simpa using e
          repeat (first | refine ⟨rfl, ?_⟩ | refine ⟨trivial, ?_⟩ | simp only [oB_some, bC_true, bC_false, vInt_int, vBool_bool, vStr_string, vPtr_pointer, vSl_slice, vMap_map, vFun_func, vAgg_agg, vTup_tuple, vIfc_nil, vIfc_iface, lC_cons, lN_nil, aP_some, shO_none, shO_some, Option.isNone_none, Option.isNone_some, Bool.not_true, Bool.not_false] | refine w_rd (by assumption) (by assumption) 0 (by rfl) (by rfl) ?_ | refine w_wrL (by assumption) (by assumption) 0 (by rfl) (Nat.le_of_ble_eq_true (by rfl)) (by rfl) fun h ρz O W => ?_ | refine w_wr (by assumption) (by assumption) 0 (by rfl) (Nat.le_of_ble_eq_true (by rfl)) (by rfl) fun h ρz O W => ?_)
          refine bC_iff (fun e2 => ?_) (fun e2 => ?_)
          · have e2 : kk ≠ 0 := by simpa using e2
            repeat (first | refine ⟨rfl, ?_⟩ | refine ⟨trivial, ?_⟩ | simp only [oB_some, bC_true, bC_false, vInt_int, vBool_bool, vStr_string, vPtr_pointer, vSl_slice, vMap_map, vFun_func, vAgg_agg, vTup_tuple, vIfc_nil, vIfc_iface, lC_cons, lN_nil, aP_some, shO_none, shO_some, Option.isNone_none, Option.isNone_some, Bool.not_true, Bool.not_false] | refine w_rd (by assumption) (by assumption) 0 (by rfl) (by rfl) ?_ | refine w_wrL (by assumption) (by assumption) 0 (by rfl) (Nat.le_of_ble_eq_true (by rfl)) (by rfl) fun h ρz O W => ?_ | refine w_wr (by assumption) (by assumption) 0 (by rfl) (Nat.le_of_ble_eq_true (by rfl)) (by rfl) fun h ρz O W => ?_)
            exact no O F1 (by simp only [F.wf, F.fine, decide_eq_false e2, decide_eq_false e, Bool.or_self, Bool.and_false, Bool.false_and])
          · have e2 : kk = 0 := by simpa using e2
            have hf : F.fine op args.length kk = true := by unfold F.fine; rw [base, decide_eq_true e2, Bool.true_or]; rfl
            repeat (first | refine ⟨rfl, ?_⟩ | refine ⟨trivial, ?_⟩ | simp only [oB_some, bC_true, bC_false, vInt_int, vBool_bool, vStr_string, vPtr_pointer, vSl_slice, vMap_map, vFun_func, vAgg_agg, vTup_tuple, vIfc_nil, vIfc_iface, lC_cons, lN_nil, aP_some, shO_none, shO_some, Option.isNone_none, Option.isNone_some, Bool.not_true, Bool.not_false] | refine w_rd (by assumption) (by assumption) 0 (by rfl) (by rfl) ?_ | refine w_wrL (by assumption) (by assumption) 0 (by rfl) (Nat.le_of_ble_eq_true (by rfl)) (by rfl) fun h ρz O W => ?_ | refine w_wr (by assumption) (by assumption) 0 (by rfl) (Nat.le_of_ble_eq_true (by rfl)) (by rfl) fun h ρz O W => ?_)
            refine rOpens_ok ?_
            simp only [oB_some, bC_true, bC_false, vInt_int, vBool_bool, vStr_string, vPtr_pointer, vSl_slice, vMap_map, vFun_func, vAgg_agg, vTup_tuple, vIfc_nil, vIfc_iface, lC_cons, lN_nil, aP_some, shO_none, shO_some, Option.isNone_none, Option.isNone_some, Bool.not_true, Bool.not_false]
            refine bC_iff (fun ho => ?_) (fun ho => ?_)
            · have ho := nb ho
              repeat (first | refine ⟨rfl, ?_⟩ | refine ⟨trivial, ?_⟩ | simp only [oB_some, bC_true, bC_false, vInt_int, vBool_bool, vStr_string, vPtr_pointer, vSl_slice, vMap_map, vFun_func, vAgg_agg, vTup_tuple, vIfc_nil, vIfc_iface, lC_cons, lN_nil, aP_some, shO_none, shO_some, Option.isNone_none, Option.isNone_some, Bool.not_true, Bool.not_false] | refine w_rd (by assumption) (by assumption) 0 (by rfl) (by rfl) ?_ | refine w_wrL (by assumption) (by assumption) 0 (by rfl) (Nat.le_of_ble_eq_true (by rfl)) (by rfl) fun h ρz O W => ?_ | refine w_wr (by assumption) (by assumption) 0 (by rfl) (Nat.le_of_ble_eq_true (by rfl)) (by rfl) fun h ρz O W => ?_)
              refine bC_iff (fun e => ?_) (fun e => ?_)
              · have e : body.len ≠ 0 := by have := of_decide_eq_true e; omega
                repeat (first | refine ⟨rfl, ?_⟩ | refine ⟨trivial, ?_⟩ | simp only [oB_some, bC_true, bC_false, vInt_int, vBool_bool, vStr_string, vPtr_pointer, vSl_slice, vMap_map, vFun_func, vAgg_agg, vTup_tuple, vIfc_nil, vIfc_iface, lC_cons, lN_nil, aP_some, shO_none, shO_some, Option.isNone_none, Option.isNone_some, Bool.not_true, Bool.not_false] | refine w_rd (by assumption) (by assumption) 0 (by rfl) (by rfl) ?_ | refine w_wrL (by assumption) (by assumption) 0 (by rfl) (Nat.le_of_ble_eq_true (by rfl)) (by rfl) fun h ρz O W => ?_ | refine w_wr (by assumption) (by assumption) 0 (by rfl) (Nat.le_of_ble_eq_true (by rfl)) (by rfl) fun h ρz O W => ?_)
                exact no O F1 (by simp only [F.wf, ho, decide_eq_false e, Bool.or_false, Bool.and_false, Bool.false_and])
              · have e : body.len = 0 := by have := of_decide_eq_false e; omega
                have f3 : (opensM op || decide (body.len = 0)) = true := by rw [decide_eq_true e, Bool.or_true]
                repeat (first | refine ⟨rfl, ?_⟩ | refine ⟨trivial, ?_⟩ | simp only [oB_some, bC_true, bC_false, vInt_int, vBool_bool, vStr_string, vPtr_pointer, vSl_slice, vMap_map, vFun_func, vAgg_agg, vTup_tuple, vIfc_nil, vIfc_iface, lC_cons, lN_nil, aP_some, shO_none, shO_some, Option.isNone_none, Option.isNone_some, Bool.not_true, Bool.not_false] | refine w_rd (by assumption) (by assumption) 0 (by rfl) (by rfl) ?_ | refine w_wrL (by assumption) (by assumption) 0 (by rfl) (Nat.le_of_ble_eq_true (by rfl)) (by rfl) fun h ρz O W => ?_ | refine w_wr (by assumption) (by assumption) 0 (by rfl) (Nat.le_of_ble_eq_true (by rfl)) (by rfl) fun h ρz O W => ?_)
                obtain ⟨bcells, v2, l2⟩ := la
                refine r_brickyardref13_one ?_
                refine one_loop body O (pre := .nil) v2 l2 (show body.len ≤ _ by omega) (by omega) fun h2 μ2 ρ2 O2 F2 => ?_
                have F12 := F1.trans F2
                repeat (first | refine ⟨rfl, ?_⟩ | refine ⟨trivial, ?_⟩ | simp only [oB_some, bC_true, bC_false, vInt_int, vBool_bool, vStr_string, vPtr_pointer, vSl_slice, vMap_map, vFun_func, vAgg_agg, vTup_tuple, vIfc_nil, vIfc_iface, lC_cons, lN_nil, aP_some, shO_none, shO_some, Option.isNone_none, Option.isNone_some, Bool.not_true, Bool.not_false] | refine w_rd (by assumption) (by assumption) 0 (by rfl) (by rfl) ?_ | refine w_wrL (by assumption) (by assumption) 0 (by rfl) (Nat.le_of_ble_eq_true (by rfl)) (by rfl) fun h ρz O W => ?_ | refine w_wr (by assumption) (by assumption) 0 (by rfl) (Nat.le_of_ble_eq_true (by rfl)) (by rfl) fun h ρz O W => ?_)
                refine bC_iff (fun e => no O2 F12 ?_) (fun e => ?_)
                · simp only [F.wf, nb e, Bool.false_and, Bool.and_false]
                have e := nb' e
                rw [wrapS (by omega)]
                have := one_loop rest (Q := Q) O2 (pre := pre.snoc op args kk body) (cap := cap) (X.keep F12) (by rw [e3]; exact L.mono fun _ _ x => x.keep F12) (by rw [e3]; exact hl) (by omega) (by
                  have := hq.keep F12
                  simp only [F.wf, hf, f3, e, Bool.true_and] at this
                  exact this)
                rw [e3, e4] at this
                exact this
            · have f3 : (opensM op || decide (body.len = 0)) = true := by rw [nb' ho]; rfl
              repeat (first | refine ⟨rfl, ?_⟩ | refine ⟨trivial, ?_⟩ | simp only [oB_some, bC_true, bC_false, vInt_int, vBool_bool, vStr_string, vPtr_pointer, vSl_slice, vMap_map, vFun_func, vAgg_agg, vTup_tuple, vIfc_nil, vIfc_iface, lC_cons, lN_nil, aP_some, shO_none, shO_some, Option.isNone_none, Option.isNone_some, Bool.not_true, Bool.not_false] | refine w_rd (by assumption) (by assumption) 0 (by rfl) (by rfl) ?_ | refine w_wrL (by assumption) (by assumption) 0 (by rfl) (Nat.le_of_ble_eq_true (by rfl)) (by rfl) fun h ρz O W => ?_ | refine w_wr (by assumption) (by assumption) 0 (by rfl) (Nat.le_of_ble_eq_true (by rfl)) (by rfl) fun h ρz O W => ?_)
              obtain ⟨bcells, v2, l2⟩ := la
              refine r_brickyardref13_one ?_
              refine one_loop body O (pre := .nil) v2 l2 (show body.len ≤ _ by omega) (by omega) fun h2 μ2 ρ2 O2 F2 => ?_
              have F12 := F1.trans F2
              repeat (first | refine ⟨rfl, ?_⟩ | refine ⟨trivial, ?_⟩ | simp only [oB_some, bC_true, bC_false, vInt_int, vBool_bool, vStr_string, vPtr_pointer, vSl_slice, vMap_map, vFun_func, vAgg_agg, vTup_tuple, vIfc_nil, vIfc_iface, lC_cons, lN_nil, aP_some, shO_none, shO_some, Option.isNone_none, Option.isNone_some, Bool.not_true, Bool.not_false] | refine w_rd (by assumption) (by assumption) 0 (by rfl) (by rfl) ?_ | refine w_wrL (by assumption) (by assumption) 0 (by rfl) (Nat.le_of_ble_eq_true (by rfl)) (by rfl) fun h ρz O W => ?_ | refine w_wr (by assumption) (by assumption) 0 (by rfl) (Nat.le_of_ble_eq_true (by rfl)) (by rfl) fun h ρz O W => ?_)
              refine bC_iff (fun e => no O2 F12 ?_) (fun e => ?_)
              · simp only [F.wf, nb e, Bool.false_and, Bool.and_false]
              have e := nb' e
              rw [wrapS (by omega)]
              have := one_loop rest (Q := Q) O2 (pre := pre.snoc op args kk body) (cap := cap) (X.keep F12) (by rw [e3]; exact L.mono fun _ _ x => x.keep F12) (by rw [e3]; exact hl) (by omega) (by
                have := hq.keep F12
                simp only [F.wf, hf, f3, e, Bool.true_and] at this
                exact this)
              rw [e3, e4] at this
              exact this
        · have e : op = 10 := by simpa using e
          have hf : F.fine op args.length kk = true := by unfold F.fine; rw [base, decide_eq_true e, Bool.or_true]; rfl
          repeat (first | refine ⟨rfl, ?_⟩ | refine ⟨trivial, ?_⟩ | simp only [oB_some, bC_true, bC_false, vInt_int, vBool_bool, vStr_string, vPtr_pointer, vSl_slice, vMap_map, vFun_func, vAgg_agg, vTup_tuple, vIfc_nil, vIfc_iface, lC_cons, lN_nil, aP_some, shO_none, shO_some, Option.isNone_none, Option.isNone_some, Bool.not_true, Bool.not_false] | refine w_rd (by assumption) (by assumption) 0 (by rfl) (by rfl) ?_ | refine w_wrL (by assumption) (by assumption) 0 (by rfl) (Nat.le_of_ble_eq_true (by rfl)) (by rfl) fun h ρz O W => ?_ | refine w_wr (by assumption) (by assumption) 0 (by rfl) (Nat.le_of_ble_eq_true (by rfl)) (by rfl) fun h ρz O W => ?_)
          refine rOpens_ok ?_
          simp only [oB_some, bC_true, bC_false, vInt_int, vBool_bool, vStr_string, vPtr_pointer, vSl_slice, vMap_map, vFun_func, vAgg_agg, vTup_tuple, vIfc_nil, vIfc_iface, lC_cons, lN_nil, aP_some, shO_none, shO_some, Option.isNone_none, Option.isNone_some, Bool.not_true, Bool.not_false]
          refine bC_iff (fun ho => ?_) (fun ho => ?_)
          · have ho := nb ho
            repeat (first | refine ⟨rfl, ?_⟩ | refine ⟨trivial, ?_⟩ | simp only [oB_some, bC_true, bC_false, vInt_int, vBool_bool, vStr_string, vPtr_pointer, vSl_slice, vMap_map, vFun_func, vAgg_agg, vTup_tuple, vIfc_nil, vIfc_iface, lC_cons, lN_nil, aP_some, shO_none, shO_some, Option.isNone_none, Option.isNone_some, Bool.not_true, Bool.not_false] | refine w_rd (by assumption) (by assumption) 0 (by rfl) (by rfl) ?_ | refine w_wrL (by assumption) (by assumption) 0 (by rfl) (Nat.le_of_ble_eq_true (by rfl)) (by rfl) fun h ρz O W => ?_ | refine w_wr (by assumption) (by assumption) 0 (by rfl) (Nat.le_of_ble_eq_true (by rfl)) (by rfl) fun h ρz O W => ?_)
            refine bC_iff (fun e => ?_) (fun e => ?_)
            · have e : body.len ≠ 0 := by have := of_decide_eq_true e; omega
              repeat (first | refine ⟨rfl, ?_⟩ | refine ⟨trivial, ?_⟩ | simp only [oB_some, bC_true, bC_false, vInt_int, vBool_bool, vStr_string, vPtr_pointer, vSl_slice, vMap_map, vFun_func, vAgg_agg, vTup_tuple, vIfc_nil, vIfc_iface, lC_cons, lN_nil, aP_some, shO_none, shO_some, Option.isNone_none, Option.isNone_some, Bool.not_true, Bool.not_false] | refine w_rd (by assumption) (by assumption) 0 (by rfl) (by rfl) ?_ | refine w_wrL (by assumption) (by assumption) 0 (by rfl) (Nat.le_of_ble_eq_true (by rfl)) (by rfl) fun h ρz O W => ?_ | refine w_wr (by assumption) (by assumption) 0 (by rfl) (Nat.le_of_ble_eq_true (by rfl)) (by rfl) fun h ρz O W => ?_)
              exact no O F1 (by simp only [F.wf, ho, decide_eq_false e, Bool.or_false, Bool.and_false, Bool.false_and])
            · have e : body.len = 0 := by have := of_decide_eq_false e; omega
              have f3 : (opensM op || decide (body.len = 0)) = true := by rw [decide_eq_true e, Bool.or_true]
              repeat (first | refine ⟨rfl, ?_⟩ | refine ⟨trivial, ?_⟩ | simp only [oB_some, bC_true, bC_false, vInt_int, vBool_bool, vStr_string, vPtr_pointer, vSl_slice, vMap_map, vFun_func, vAgg_agg, vTup_tuple, vIfc_nil, vIfc_iface, lC_cons, lN_nil, aP_some, shO_none, shO_some, Option.isNone_none, Option.isNone_some, Bool.not_true, Bool.not_false] | refine w_rd (by assumption) (by assumption) 0 (by rfl) (by rfl) ?_ | refine w_wrL (by assumption) (by assumption) 0 (by rfl) (Nat.le_of_ble_eq_true (by rfl)) (by rfl) fun h ρz O W => ?_ | refine w_wr (by assumption) (by assumption) 0 (by rfl) (Nat.le_of_ble_eq_true (by rfl)) (by rfl) fun h ρz O W => ?_)
              obtain ⟨bcells, v2, l2⟩ := la
              refine r_brickyardref13_one ?_
              refine one_loop body O (pre := .nil) v2 l2 (show body.len ≤ _ by omega) (by omega) fun h2 μ2 ρ2 O2 F2 => ?_
              have F12 := F1.trans F2
              repeat (first | refine ⟨rfl, ?_⟩ | refine ⟨trivial, ?_⟩ | simp only [oB_some, bC_true, bC_false, vInt_int, vBool_bool, vStr_string, vPtr_pointer, vSl_slice, vMap_map, vFun_func, vAgg_agg, vTup_tuple, vIfc_nil, vIfc_iface, lC_cons, lN_nil, aP_some, shO_none, shO_some, Option.isNone_none, Option.isNone_some, Bool.not_true, Bool.not_false] | refine w_rd (by assumption) (by assumption) 0 (by rfl) (by rfl) ?_ | refine w_wrL (by assumption) (by assumption) 0 (by rfl) (Nat.le_of_ble_eq_true (by rfl)) (by rfl) fun h ρz O W => ?_ | refine w_wr (by assumption) (by assumption) 0 (by rfl) (Nat.le_of_ble_eq_true (by rfl)) (by rfl) fun h ρz O W => ?_)
              refine bC_iff (fun e => no O2 F12 ?_) (fun e => ?_)
              · simp only [F.wf, nb e, Bool.false_and, Bool.and_false]
              have e := nb' e
              rw [wrapS (by omega)]
              have := one_loop rest (Q := Q) O2 (pre := pre.snoc op args kk body) (cap := cap) (X.keep F12) (by rw [e3]; exact L.mono fun _ _ x => x.keep F12) (by rw [e3]; exact hl) (by omega) (by
                have := hq.keep F12
                simp only [F.wf, hf, f3, e, Bool.true_and] at this
                exact this)
              rw [e3, e4] at this
              exact this
          · have f3 : (opensM op || decide (body.len = 0)) = true := by rw [nb' ho]; rfl
            repeat (first | refine ⟨rfl, ?_⟩ | refine ⟨trivial, ?_⟩ | simp only [oB_some, bC_true, bC_false, vInt_int, vBool_bool, vStr_string, vPtr_pointer, vSl_slice, vMap_map, vFun_func, vAgg_agg, vTup_tuple, vIfc_nil, vIfc_iface, lC_cons, lN_nil, aP_some, shO_none, shO_some, Option.isNone_none, Option.isNone_some, Bool.not_true, Bool.not_false] | refine w_rd (by assumption) (by assumption) 0 (by rfl) (by rfl) ?_ | refine w_wrL (by assumption) (by assumption) 0 (by rfl) (Nat.le_of_ble_eq_true (by rfl)) (by rfl) fun h ρz O W => ?_ | refine w_wr (by assumption) (by assumption) 0 (by rfl) (Nat.le_of_ble_eq_true (by rfl)) (by rfl) fun h ρz O W => ?_)
            obtain ⟨bcells, v2, l2⟩ := la
            refine r_brickyardref13_one ?_
            refine one_loop body O (pre := .nil) v2 l2 (show body.len ≤ _ by omega) (by omega) fun h2 μ2 ρ2 O2 F2 => ?_
            have F12 := F1.trans F2
            repeat (first | refine ⟨rfl, ?_⟩ | refine ⟨trivial, ?_⟩ | simp only [oB_some, bC_true, bC_false, vInt_int, vBool_bool, vStr_string, vPtr_pointer, vSl_slice, vMap_map, vFun_func, vAgg_agg, vTup_tuple, vIfc_nil, vIfc_iface, lC_cons, lN_nil, aP_some, shO_none, shO_some, Option.isNone_none, Option.isNone_some, Bool.not_true, Bool.not_false] | refine w_rd (by assumption) (by assumption) 0 (by rfl) (by rfl) ?_ | refine w_wrL (by assumption) (by assumption) 0 (by rfl) (Nat.le_of_ble_eq_true (by rfl)) (by rfl) fun h ρz O W => ?_ | refine w_wr (by assumption) (by assumption) 0 (by rfl) (Nat.le_of_ble_eq_true (by rfl)) (by rfl) fun h ρz O W => ?_)
            refine bC_iff (fun e => no O2 F12 ?_) (fun e => ?_)
            · simp only [F.wf, nb e, Bool.false_and, Bool.and_false]
            have e := nb' e
            rw [wrapS (by omega)]
            have := one_loop rest (Q := Q) O2 (pre := pre.snoc op args kk body) (cap := cap) (X.keep F12) (by rw [e3]; exact L.mono fun _ _ x => x.keep F12) (by rw [e3]; exact hl) (by omega) (by
              have := hq.keep F12
              simp only [F.wf, hf, f3, e, Bool.true_and] at this
              exact this)
            rw [e3, e4] at this
            exact this
    · have x2 := of_decide_eq_false x2
      have x3 : fitsM op args.length = true := by
        unfold fitsM
        rw [decide_eq_true (show argsM op < 0 by omega), Bool.true_or]
      repeat (first | refine ⟨rfl, ?_⟩ | refine ⟨trivial, ?_⟩ | simp only [oB_some, bC_true, bC_false, vInt_int, vBool_bool, vStr_string, vPtr_pointer, vSl_slice, vMap_map, vFun_func, vAgg_agg, vTup_tuple, vIfc_nil, vIfc_iface, lC_cons, lN_nil, aP_some, shO_none, shO_some, Option.isNone_none, Option.isNone_some, Bool.not_true, Bool.not_false] | refine w_rd (by assumption) (by assumption) 0 (by rfl) (by rfl) ?_ | refine w_wrL (by assumption) (by assumption) 0 (by rfl) (Nat.le_of_ble_eq_true (by rfl)) (by rfl) fun h ρz O W => ?_ | refine w_wr (by assumption) (by assumption) 0 (by rfl) (Nat.le_of_ble_eq_true (by rfl)) (by rfl) fun h ρz O W => ?_)
      refine bC_iff (fun e => ?_) (fun x4 => ?_)
      · have e := of_decide_eq_true e
        repeat (first | refine ⟨rfl, ?_⟩ | refine ⟨trivial, ?_⟩ | simp only [oB_some, bC_true, bC_false, vInt_int, vBool_bool, vStr_string, vPtr_pointer, vSl_slice, vMap_map, vFun_func, vAgg_agg, vTup_tuple, vIfc_nil, vIfc_iface, lC_cons, lN_nil, aP_some, shO_none, shO_some, Option.isNone_none, Option.isNone_some, Bool.not_true, Bool.not_false] | refine w_rd (by assumption) (by assumption) 0 (by rfl) (by rfl) ?_ | refine w_wrL (by assumption) (by assumption) 0 (by rfl) (Nat.le_of_ble_eq_true (by rfl)) (by rfl) fun h ρz O W => ?_ | refine w_wr (by assumption) (by assumption) 0 (by rfl) (Nat.le_of_ble_eq_true (by rfl)) (by rfl) fun h ρz O W => ?_)
        exact no O F1 (by simp only [F.wf, F.fine, decide_eq_false (show ¬ 0 ≤ kk by omega), Bool.false_and, Bool.and_false])
      have x4 := of_decide_eq_false x4
      repeat (first | refine ⟨rfl, ?_⟩ | refine ⟨trivial, ?_⟩ | simp only [oB_some, bC_true, bC_false, vInt_int, vBool_bool, vStr_string, vPtr_pointer, vSl_slice, vMap_map, vFun_func, vAgg_agg, vTup_tuple, vIfc_nil, vIfc_iface, lC_cons, lN_nil, aP_some, shO_none, shO_some, Option.isNone_none, Option.isNone_some, Bool.not_true, Bool.not_false] | refine w_rd (by assumption) (by assumption) 0 (by rfl) (by rfl) ?_ | refine w_wrL (by assumption) (by assumption) 0 (by rfl) (Nat.le_of_ble_eq_true (by rfl)) (by rfl) fun h ρz O W => ?_ | refine w_wr (by assumption) (by assumption) 0 (by rfl) (Nat.le_of_ble_eq_true (by rfl)) (by rfl) fun h ρz O W => ?_)
      refine bC_iff (fun e => ?_) (fun x5 => ?_)
      · have e := of_decide_eq_true e
        repeat (first | refine ⟨rfl, ?_⟩ | refine ⟨trivial, ?_⟩ | simp only [oB_some, bC_true, bC_false, vInt_int, vBool_bool, vStr_string, vPtr_pointer, vSl_slice, vMap_map, vFun_func, vAgg_agg, vTup_tuple, vIfc_nil, vIfc_iface, lC_cons, lN_nil, aP_some, shO_none, shO_some, Option.isNone_none, Option.isNone_some, Bool.not_true, Bool.not_false] | refine w_rd (by assumption) (by assumption) 0 (by rfl) (by rfl) ?_ | refine w_wrL (by assumption) (by assumption) 0 (by rfl) (Nat.le_of_ble_eq_true (by rfl)) (by rfl) fun h ρz O W => ?_ | refine w_wr (by assumption) (by assumption) 0 (by rfl) (Nat.le_of_ble_eq_true (by rfl)) (by rfl) fun h ρz O W => ?_)
        exact no O F1 (by simp only [F.wf, F.fine, decide_eq_false (show ¬ kk ≤ 1000 by omega), Bool.false_and, Bool.and_false])
      have x5 := of_decide_eq_false x5
      have base : (decide (1 ≤ op) && decide (op ≤ 12) && fitsM op args.length && decide (0 ≤ kk) && decide (kk ≤ 1000)) = true := by
        rw [decide_eq_true (show 1 ≤ op by omega), decide_eq_true (show op ≤ 12 by omega), x3, decide_eq_true (show 0 ≤ kk by omega), decide_eq_true (show kk ≤ 1000 by omega)]; rfl
      repeat (first | refine ⟨rfl, ?_⟩ | refine ⟨trivial, ?_⟩ | simp only [oB_some, bC_true, bC_false, vInt_int, vBool_bool, vStr_string, vPtr_pointer, vSl_slice, vMap_map, vFun_func, vAgg_agg, vTup_tuple, vIfc_nil, vIfc_iface, lC_cons, lN_nil, aP_some, shO_none, shO_some, Option.isNone_none, Option.isNone_some, Bool.not_true, Bool.not_false] | refine w_rd (by assumption) (by assumption) 0 (by rfl) (by rfl) ?_ | refine w_wrL (by assumption) (by assumption) 0 (by rfl) (Nat.le_of_ble_eq_true (by rfl)) (by rfl) fun h ρz O W => ?_ | refine w_wr (by assumption) (by assumption) 0 (by rfl) (Nat.le_of_ble_eq_true (by rfl)) (by rfl) fun h ρz O W => ?_)
      refine bC_iff (fun e => ?_) (fun e => ?_)
      · have e : op ≠ 10 := by simpa using e
        repeat (first | refine ⟨rfl, ?_⟩ | refine ⟨trivial, ?_⟩ | simp only [oB_some, bC_true, bC_false, vInt_int, vBool_bool, vStr_string, vPtr_pointer, vSl_slice, vMap_map, vFun_func, vAgg_agg, vTup_tuple, vIfc_nil, vIfc_iface, lC_cons, lN_nil, aP_some, shO_none, shO_some, Option.isNone_none, Option.isNone_some, Bool.not_true, Bool.not_false] | refine w_rd (by assumption) (by assumption) 0 (by rfl) (by rfl) ?_ | refine w_wrL (by assumption) (by assumption) 0 (by rfl) (Nat.le_of_ble_eq_true (by rfl)) (by rfl) fun h ρz O W => ?_ | refine w_wr (by assumption) (by assumption) 0 (by rfl) (Nat.le_of_ble_eq_true (by rfl)) (by rfl) fun h ρz O W => ?_)
        refine bC_iff (fun e2 => ?_) (fun e2 => ?_)
        · have e2 : kk ≠ 0 := by simpa using e2
          repeat (first | refine ⟨rfl, ?_⟩ | refine ⟨trivial, ?_⟩ | simp only [oB_some, bC_true, bC_false, vInt_int, vBool_bool, vStr_string, vPtr_pointer, vSl_slice, vMap_map, vFun_func, vAgg_agg, vTup_tuple, vIfc_nil, vIfc_iface, lC_cons, lN_nil, aP_some, shO_none, shO_some, Option.isNone_none, Option.isNone_some, Bool.not_true, Bool.not_false] | refine w_rd (by assumption) (by assumption) 0 (by rfl) (by rfl) ?_ | refine w_wrL (by assumption) (by assumption) 0 (by rfl) (Nat.le_of_ble_eq_true (by rfl)) (by rfl) fun h ρz O W => ?_ | refine w_wr (by assumption) (by assumption) 0 (by rfl) (Nat.le_of_ble_eq_true (by rfl)) (by rfl) fun h ρz O W => ?_)
          exact no O F1 (by simp only [F.wf, F.fine, decide_eq_false e2, decide_eq_false e, Bool.or_self, Bool.and_false, Bool.false_and])
        · have e2 : kk = 0 := by simpa using e2
          have hf : F.fine op args.length kk = true := by unfold F.fine; rw [base, decide_eq_true e2, Bool.true_or]; rfl
          repeat (first | refine ⟨rfl, ?_⟩ | refine ⟨trivial, ?_⟩ | simp only [oB_some, bC_true, bC_false, vInt_int, vBool_bool, vStr_string, vPtr_pointer, vSl_slice, vMap_map, vFun_func, vAgg_agg, vTup_tuple, vIfc_nil, vIfc_iface, lC_cons, lN_nil, aP_some, shO_none, shO_some, Option.isNone_none, Option.isNone_some, Bool.not_true, Bool.not_false] | refine w_rd (by assumption) (by assumption) 0 (by rfl) (by rfl) ?_ | refine w_wrL (by assumption) (by assumption) 0 (by rfl) (Nat.le_of_ble_eq_true (by rfl)) (by rfl) fun h ρz O W => ?_ | refine w_wr (by assumption) (by assumption) 0 (by rfl) (Nat.le_of_ble_eq_true (by rfl)) (by rfl) fun h ρz O W => ?_)
          refine rOpens_ok ?_
          simp only [oB_some, bC_true, bC_false, vInt_int, vBool_bool, vStr_string, vPtr_pointer, vSl_slice, vMap_map, vFun_func, vAgg_agg, vTup_tuple, vIfc_nil, vIfc_iface, lC_cons, lN_nil, aP_some, shO_none, shO_some, Option.isNone_none, Option.isNone_some, Bool.not_true, Bool.not_false]
          refine bC_iff (fun ho => ?_) (fun ho => ?_)
          · have ho := nb ho
            repeat (first | refine ⟨rfl, ?_⟩ | refine ⟨trivial, ?_⟩ | simp only [oB_some, bC_true, bC_false, vInt_int, vBool_bool, vStr_string, vPtr_pointer, vSl_slice, vMap_map, vFun_func, vAgg_agg, vTup_tuple, vIfc_nil, vIfc_iface, lC_cons, lN_nil, aP_some, shO_none, shO_some, Option.isNone_none, Option.isNone_some, Bool.not_true, Bool.not_false] | refine w_rd (by assumption) (by assumption) 0 (by rfl) (by rfl) ?_ | refine w_wrL (by assumption) (by assumption) 0 (by rfl) (Nat.le_of_ble_eq_true (by rfl)) (by rfl) fun h ρz O W => ?_ | refine w_wr (by assumption) (by assumption) 0 (by rfl) (Nat.le_of_ble_eq_true (by rfl)) (by rfl) fun h ρz O W => ?_)
            refine bC_iff (fun e => ?_) (fun e => ?_)
            · have e : body.len ≠ 0 := by have := of_decide_eq_true e; omega
              repeat (first | refine ⟨rfl, ?_⟩ | refine ⟨trivial, ?_⟩ | simp only [oB_some, bC_true, bC_false, vInt_int, vBool_bool, vStr_string, vPtr_pointer, vSl_slice, vMap_map, vFun_func, vAgg_agg, vTup_tuple, vIfc_nil, vIfc_iface, lC_cons, lN_nil, aP_some, shO_none, shO_some, Option.isNone_none, Option.isNone_some, Bool.not_true, Bool.not_false] | refine w_rd (by assumption) (by assumption) 0 (by rfl) (by rfl) ?_ | refine w_wrL (by assumption) (by assumption) 0 (by rfl) (Nat.le_of_ble_eq_true (by rfl)) (by rfl) fun h ρz O W => ?_ | refine w_wr (by assumption) (by assumption) 0 (by rfl) (Nat.le_of_ble_eq_true (by rfl)) (by rfl) fun h ρz O W => ?_)
              exact no O F1 (by simp only [F.wf, ho, decide_eq_false e, Bool.or_false, Bool.and_false, Bool.false_and])
            · have e : body.len = 0 := by have := of_decide_eq_false e; omega
              have f3 : (opensM op || decide (body.len = 0)) = true := by rw [decide_eq_true e, Bool.or_true]
              repeat (first | refine ⟨rfl, ?_⟩ | refine ⟨trivial, ?_⟩ | simp only [oB_some, bC_true, bC_false, vInt_int, vBool_bool, vStr_string, vPtr_pointer, vSl_slice, vMap_map, vFun_func, vAgg_agg, vTup_tuple, vIfc_nil, vIfc_iface, lC_cons, lN_nil, aP_some, shO_none, shO_some, Option.isNone_none, Option.isNone_some, Bool.not_true, Bool.not_false] | refine w_rd (by assumption) (by assumption) 0 (by rfl) (by rfl) ?_ | refine w_wrL (by assumption) (by assumption) 0 (by rfl) (Nat.le_of_ble_eq_true (by rfl)) (by rfl) fun h ρz O W => ?_ | refine w_wr (by assumption) (by assumption) 0 (by rfl) (Nat.le_of_ble_eq_true (by rfl)) (by rfl) fun h ρz O W => ?_)
              obtain ⟨bcells, v2, l2⟩ := la
              refine r_brickyardref13_one ?_
              refine one_loop body O (pre := .nil) v2 l2 (show body.len ≤ _ by omega) (by omega) fun h2 μ2 ρ2 O2 F2 => ?_
              have F12 := F1.trans F2
              repeat (first | refine ⟨rfl, ?_⟩ | refine ⟨trivial, ?_⟩ | simp only [oB_some, bC_true, bC_false, vInt_int, vBool_bool, vStr_string, vPtr_pointer, vSl_slice, vMap_map, vFun_func, vAgg_agg, vTup_tuple, vIfc_nil, vIfc_iface, lC_cons, lN_nil, aP_some, shO_none, shO_some, Option.isNone_none, Option.isNone_some, Bool.not_true, Bool.not_false] | refine w_rd (by assumption) (by assumption) 0 (by rfl) (by rfl) ?_ | refine w_wrL (by assumption) (by assumption) 0 (by rfl) (Nat.le_of_ble_eq_true (by rfl)) (by rfl) fun h ρz O W => ?_ | refine w_wr (by assumption) (by assumption) 0 (by rfl) (Nat.le_of_ble_eq_true (by rfl)) (by rfl) fun h ρz O W => ?_)
              refine bC_iff (fun e => no O2 F12 ?_) (fun e => ?_)
              · simp only [F.wf, nb e, Bool.false_and, Bool.and_false]
              have e := nb' e
              rw [wrapS (by omega)]
              have := one_loop rest (Q := Q) O2 (pre := pre.snoc op args kk body) (cap := cap) (X.keep F12) (by rw [e3]; exact L.mono fun _ _ x => x.keep F12) (by rw [e3]; exact hl) (by omega) (by
                have := hq.keep F12
                simp only [F.wf, hf, f3, e, Bool.true_and] at this
                exact this)
              rw [e3, e4] at this
              exact this
          · have f3 : (opensM op || decide (body.len = 0)) = true := by rw [nb' ho]; rfl
            repeat (first | refine ⟨rfl, ?_⟩ | refine ⟨trivial, ?_⟩ | simp only [oB_some, bC_true, bC_false, vInt_int, vBool_bool, vStr_string, vPtr_pointer, vSl_slice, vMap_map, vFun_func, vAgg_agg, vTup_tuple, vIfc_nil, vIfc_iface, lC_cons, lN_nil, aP_some, shO_none, shO_some, Option.isNone_none, Option.isNone_some, Bool.not_true, Bool.not_false] | refine w_rd (by assumption) (by assumption) 0 (by rfl) (by rfl) ?_ | refine w_wrL (by assumption) (by assumption) 0 (by rfl) (Nat.le_of_ble_eq_true (by rfl)) (by rfl) fun h ρz O W => ?_ | refine w_wr (by assumption) (by assumption) 0 (by rfl) (Nat.le_of_ble_eq_true (by rfl)) (by rfl) fun h ρz O W => ?_)
            obtain ⟨bcells, v2, l2⟩ := la
            refine r_brickyardref13_one ?_
            refine one_loop body O (pre := .nil) v2 l2 (show body.len ≤ _ by omega) (by omega) fun h2 μ2 ρ2 O2 F2 => ?_
            have F12 := F1.trans F2
            repeat (first | refine ⟨rfl, ?_⟩ | refine ⟨trivial, ?_⟩ | simp only [oB_some, bC_true, bC_false, vInt_int, vBool_bool, vStr_string, vPtr_pointer, vSl_slice, vMap_map, vFun_func, vAgg_agg, vTup_tuple, vIfc_nil, vIfc_iface, lC_cons, lN_nil, aP_some, shO_none, shO_some, Option.isNone_none, Option.isNone_some, Bool.not_true, Bool.not_false] | refine w_rd (by assumption) (by assumption) 0 (by rfl) (by rfl) ?_ | refine w_wrL (by assumption) (by assumption) 0 (by rfl) (Nat.le_of_ble_eq_true (by rfl)) (by rfl) fun h ρz O W => ?_ | refine w_wr (by assumption) (by assumption) 0 (by rfl) (Nat.le_of_ble_eq_true (by rfl)) (by rfl) fun h ρz O W => ?_)
            refine bC_iff (fun e => no O2 F12 ?_) (fun e => ?_)
            · simp only [F.wf, nb e, Bool.false_and, Bool.and_false]
            have e := nb' e
            rw [wrapS (by omega)]
            have := one_loop rest (Q := Q) O2 (pre := pre.snoc op args kk body) (cap := cap) (X.keep F12) (by rw [e3]; exact L.mono fun _ _ x => x.keep F12) (by rw [e3]; exact hl) (by omega) (by
              have := hq.keep F12
              simp only [F.wf, hf, f3, e, Bool.true_and] at this
              exact this)
            rw [e3, e4] at this
            exact this
      · have e : op = 10 := by simpa using e
        have hf : F.fine op args.length kk = true := by unfold F.fine; rw [base, decide_eq_true e, Bool.or_true]; rfl
        repeat (first | refine ⟨rfl, ?_⟩ | refine ⟨trivial, ?_⟩ | simp only [oB_some, bC_true, bC_false, vInt_int, vBool_bool, vStr_string, vPtr_pointer, vSl_slice, vMap_map, vFun_func, vAgg_agg, vTup_tuple, vIfc_nil, vIfc_iface, lC_cons, lN_nil, aP_some, shO_none, shO_some, Option.isNone_none, Option.isNone_some, Bool.not_true, Bool.not_false] | refine w_rd (by assumption) (by assumption) 0 (by rfl) (by rfl) ?_ | refine w_wrL (by assumption) (by assumption) 0 (by rfl) (Nat.le_of_ble_eq_true (by rfl)) (by rfl) fun h ρz O W => ?_ | refine w_wr (by assumption) (by assumption) 0 (by rfl) (Nat.le_of_ble_eq_true (by rfl)) (by rfl) fun h ρz O W => ?_)
        refine rOpens_ok ?_
        simp only [oB_some, bC_true, bC_false, vInt_int, vBool_bool, vStr_string, vPtr_pointer, vSl_slice, vMap_map, vFun_func, vAgg_agg, vTup_tuple, vIfc_nil, vIfc_iface, lC_cons, lN_nil, aP_some, shO_none, shO_some, Option.isNone_none, Option.isNone_some, Bool.not_true, Bool.not_false]
        refine bC_iff (fun ho => ?_) (fun ho => ?_)
        · have ho := nb ho
          repeat (first | refine ⟨rfl, ?_⟩ | refine ⟨trivial, ?_⟩ | simp only [oB_some, bC_true, bC_false, vInt_int, vBool_bool, vStr_string, vPtr_pointer, vSl_slice, vMap_map, vFun_func, vAgg_agg, vTup_tuple, vIfc_nil, vIfc_iface, lC_cons, lN_nil, aP_some, shO_none, shO_some, Option.isNone_none, Option.isNone_some, Bool.not_true, Bool.not_false] | refine w_rd (by assumption) (by assumption) 0 (by rfl) (by rfl) ?_ | refine w_wrL (by assumption) (by assumption) 0 (by rfl) (Nat.le_of_ble_eq_true (by rfl)) (by rfl) fun h ρz O W => ?_ | refine w_wr (by assumption) (by assumption) 0 (by rfl) (Nat.le_of_ble_eq_true (by rfl)) (by rfl) fun h ρz O W => ?_)
          refine bC_iff (fun e => ?_) (fun e => ?_)
          · have e : body.len ≠ 0 := by have := of_decide_eq_true e; omega
            repeat (first | refine ⟨rfl, ?_⟩ | refine ⟨trivial, ?_⟩ | simp only [oB_some, bC_true, bC_false, vInt_int, vBool_bool, vStr_string, vPtr_pointer, vSl_slice, vMap_map, vFun_func, vAgg_agg, vTup_tuple, vIfc_nil, vIfc_iface, lC_cons, lN_nil, aP_some, shO_none, shO_some, Option.isNone_none, Option.isNone_some, Bool.not_true, Bool.not_false] | refine w_rd (by assumption) (by assumption) 0 (by rfl) (by rfl) ?_ | refine w_wrL (by assumption) (by assumption) 0 (by rfl) (Nat.le_of_ble_eq_true (by rfl)) (by rfl) fun h ρz O W => ?_ | refine w_wr (by assumption) (by assumption) 0 (by rfl) (Nat.le_of_ble_eq_true (by rfl)) (by rfl) fun h ρz O W => ?_)
            exact no O F1 (by simp only [F.wf, ho, decide_eq_false e, Bool.or_false, Bool.and_false, Bool.false_and])
          · have e : body.len = 0 := by have := of_decide_eq_false e; omega
            have f3 : (opensM op || decide (body.len = 0)) = true := by rw [decide_eq_true e, Bool.or_true]
            repeat (first | refine ⟨rfl, ?_⟩ | refine ⟨trivial, ?_⟩ | simp only [oB_some, bC_true, bC_false, vInt_int, vBool_bool, vStr_string, vPtr_pointer, vSl_slice, vMap_map, vFun_func, vAgg_agg, vTup_tuple, vIfc_nil, vIfc_iface, lC_cons, lN_nil, aP_some, shO_none, shO_some, Option.isNone_none, Option.isNone_some, Bool.not_true, Bool.not_false] | refine w_rd (by assumption) (by assumption) 0 (by rfl) (by rfl) ?_ | refine w_wrL (by assumption) (by assumption) 0 (by rfl) (Nat.le_of_ble_eq_true (by rfl)) (by rfl) fun h ρz O W => ?_ | refine w_wr (by assumption) (by assumption) 0 (by rfl) (Nat.le_of_ble_eq_true (by rfl)) (by rfl) fun h ρz O W => ?_)
            obtain ⟨bcells, v2, l2⟩ := la
            refine r_brickyardref13_one ?_
            refine one_loop body O (pre := .nil) v2 l2 (show body.len ≤ _ by omega) (by omega) fun h2 μ2 ρ2 O2 F2 => ?_
            have F12 := F1.trans F2
            repeat (first | refine ⟨rfl, ?_⟩ | refine ⟨trivial, ?_⟩ | simp only [oB_some, bC_true, bC_false, vInt_int, vBool_bool, vStr_string, vPtr_pointer, vSl_slice, vMap_map, vFun_func, vAgg_agg, vTup_tuple, vIfc_nil, vIfc_iface, lC_cons, lN_nil, aP_some, shO_none, shO_some, Option.isNone_none, Option.isNone_some, Bool.not_true, Bool.not_false] | refine w_rd (by assumption) (by assumption) 0 (by rfl) (by rfl) ?_ | refine w_wrL (by assumption) (by assumption) 0 (by rfl) (Nat.le_of_ble_eq_true (by rfl)) (by rfl) fun h ρz O W => ?_ | refine w_wr (by assumption) (by assumption) 0 (by rfl) (Nat.le_of_ble_eq_true (by rfl)) (by rfl) fun h ρz O W => ?_)
            refine bC_iff (fun e => no O2 F12 ?_) (fun e => ?_)
            · simp only [F.wf, nb e, Bool.false_and, Bool.and_false]
            have e := nb' e
            rw [wrapS (by omega)]
            have := one_loop rest (Q := Q) O2 (pre := pre.snoc op args kk body) (cap := cap) (X.keep F12) (by rw [e3]; exact L.mono fun _ _ x => x.keep F12) (by rw [e3]; exact hl) (by omega) (by
              have := hq.keep F12
              simp only [F.wf, hf, f3, e, Bool.true_and] at this
              exact this)
            rw [e3, e4] at this
            exact this
        · have f3 : (opensM op || decide (body.len = 0)) = true := by rw [nb' ho]; rfl
          repeat (first | refine ⟨rfl, ?_⟩ | refine ⟨trivial, ?_⟩ | simp only [oB_some, bC_true, bC_false, vInt_int, vBool_bool, vStr_string, vPtr_pointer, vSl_slice, vMap_map, vFun_func, vAgg_agg, vTup_tuple, vIfc_nil, vIfc_iface, lC_cons, lN_nil, aP_some, shO_none, shO_some, Option.isNone_none, Option.isNone_some, Bool.not_true, Bool.not_false] | refine w_rd (by assumption) (by assumption) 0 (by rfl) (by rfl) ?_ | refine w_wrL (by assumption) (by assumption) 0 (by rfl) (Nat.le_of_ble_eq_true (by rfl)) (by rfl) fun h ρz O W => ?_ | refine w_wr (by assumption) (by assumption) 0 (by rfl) (Nat.le_of_ble_eq_true (by rfl)) (by rfl) fun h ρz O W => ?_)
          obtain ⟨bcells, v2, l2⟩ := la
          refine r_brickyardref13_one ?_
          refine one_loop body O (pre := .nil) v2 l2 (show body.len ≤ _ by omega) (by omega) fun h2 μ2 ρ2 O2 F2 => ?_
          have F12 := F1.trans F2
          repeat (first | refine ⟨rfl, ?_⟩ | refine ⟨trivial, ?_⟩ | simp only [oB_some, bC_true, bC_false, vInt_int, vBool_bool, vStr_string, vPtr_pointer, vSl_slice, vMap_map, vFun_func, vAgg_agg, vTup_tuple, vIfc_nil, vIfc_iface, lC_cons, lN_nil, aP_some, shO_none, shO_some, Option.isNone_none, Option.isNone_some, Bool.not_true, Bool.not_false] | refine w_rd (by assumption) (by assumption) 0 (by rfl) (by rfl) ?_ | refine w_wrL (by assumption) (by assumption) 0 (by rfl) (Nat.le_of_ble_eq_true (by rfl)) (by rfl) fun h ρz O W => ?_ | refine w_wr (by assumption) (by assumption) 0 (by rfl) (Nat.le_of_ble_eq_true (by rfl)) (by rfl) fun h ρz O W => ?_)
          refine bC_iff (fun e => no O2 F12 ?_) (fun e => ?_)
          · simp only [F.wf, nb e, Bool.false_and, Bool.and_false]
          have e := nb' e
          rw [wrapS (by omega)]
          have := one_loop rest (Q := Q) O2 (pre := pre.snoc op args kk body) (cap := cap) (X.keep F12) (by rw [e3]; exact L.mono fun _ _ x => x.keep F12) (by rw [e3]; exact hl) (by omega) (by
            have := hq.keep F12
            simp only [F.wf, hf, f3, e, Bool.true_and] at this
            exact this)
          rw [e3, e4] at this
          exact this
theorem one_ok (O : Own h μ ρ) {f : F} {a : Option Addr} {cap : Nat} (X : Ly ρ f a) (hs : f.size ≤ 1000000000) (hq : RdQ Q ρ (.bool f.wf)) : EvQ P f_brickyardref13_one [.slice a f.len cap] h Q := by
  obtain ⟨c, v, l⟩ := X
  have := F.size_more f
  exact r_brickyardref13_one (one_loop f O (pre := .nil) v l (show f.len ≤ _ by omega) hs hq)
theorem rmay_ok (O : Own h μ ρ) {f : F} {a : Option Addr} {cap : Nat} (X : Ly ρ f a) (hs : f.size ≤ 1000000000) (hq : RdQ Q ρ (.bool f.may)) : EvQ P f_brickyardref13_May [.slice a f.len cap] h Q := by
  have hm : f.may = (f.wf && (decide (f.size ≤ 256) && decide (f.deep ≤ 8))) := by
    rw [Bool.eq_iff_iff, F.may_iff]
    simp only [Bool.and_eq_true, decide_eq_true_eq]
    exact ⟨fun ⟨x, y, z⟩ => ⟨x, z, y⟩, fun ⟨x, z, y⟩ => ⟨x, y, z⟩⟩
  rw [hm] at hq
  refine r_brickyardref13_May ?_
  refine one_ok O X hs fun h2 μ2 ρ2 O2 F2 => ?_
  simp only [oB_some, bC_true, bC_false, vInt_int, vBool_bool, vStr_string, vPtr_pointer, vSl_slice, vMap_map, vFun_func, vAgg_agg, vTup_tuple, vIfc_nil, vIfc_iface, lC_cons, lN_nil, aP_some, shO_none, shO_some, Option.isNone_none, Option.isNone_some, Bool.not_true, Bool.not_false]
  refine bC_iff (fun e => ?_) (fun e => ?_)
  · rw [e, Bool.true_and] at hq
    refine rsize_ok O2 (X.keep F2) hs fun h3 μ3 ρ3 O3 F3 => ?_
    simp only [oB_some, bC_true, bC_false, vInt_int, vBool_bool, vStr_string, vPtr_pointer, vSl_slice, vMap_map, vFun_func, vAgg_agg, vTup_tuple, vIfc_nil, vIfc_iface, lC_cons, lN_nil, aP_some, shO_none, shO_some, Option.isNone_none, Option.isNone_some, Bool.not_true, Bool.not_false]
    refine bC_iff (fun e => ?_) (fun e => ?_)
    · have e : f.size ≤ 256 := by have := of_decide_eq_true e; omega
      rw [decide_eq_true e, Bool.true_and] at hq
      refine rdeep_ok O3 ((X.keep F2).keep F3) hs fun h4 μ4 ρ4 O4 F4 => ?_
      simp only [oB_some, bC_true, bC_false, vInt_int, vBool_bool, vStr_string, vPtr_pointer, vSl_slice, vMap_map, vFun_func, vAgg_agg, vTup_tuple, vIfc_nil, vIfc_iface, lC_cons, lN_nil, aP_some, shO_none, shO_some, Option.isNone_none, Option.isNone_some, Bool.not_true, Bool.not_false]
      rw [show decide ((f.deep : Int) ≤ 8) = decide (f.deep ≤ 8) from decide_eq_decide.2 (by omega)]
      exact hq _ _ _ O4 ((F2.trans F3).trans F4)
    · have e : ¬ f.size ≤ 256 := by have := of_decide_eq_false e; omega
      rw [decide_eq_false e, Bool.false_and] at hq
      exact hq _ _ _ O3 (F2.trans F3)
  · rw [e, Bool.false_and] at hq
    exact hq _ _ _ O2 F2
end Go.Proofs.YtgdkekdedgkglaaDoor
end

section
/- Statements as lines, as said. -/
namespace Go.Proofs.YtgdkekdedgkglaaDoor
open Go.Abs Go.Abs.Fo
set_option maxRecDepth 100000
attribute [local irreducible] unitAt EvQ
variable {h : AW} {μ : Paint} {ρ ρ' : Store} {Q : Value → AW → Prop}
/-- What the loop over some statements does. -/
def LR (rest : F) : Prop := ∀ ⦃ρ : Store⦄ ⦃cm : Nat⦄, ρ cm = none → ∀ ⦃h : AW⦄ ⦃μ : Paint⦄ ⦃ρ1 ρ' : Store⦄ ⦃co : Nat⦄ ⦃oa : Option Addr⦄ ⦃oc : Nat⦄ ⦃acc : List Wds⦄ ⦃vs : List (Option Addr × Nat × Nat × List Value)⦄ ⦃Q : Value → AW → Prop⦄ ⦃pre : F⦄ ⦃a : Option Addr⦄ ⦃c : List Value⦄ ⦃cap : Nat⦄,
    Own h μ ρ' → Pcs ρ1 ρ' [co, cm] [.sl oa oc 1 (acc.map Wds.cell), .many vs] → ρ1 co = none → Fra [] ρ ρ1 → Vw ρ [] a c → Lies (Vw ρ []) (pre.app rest) c → (pre.app rest).len ≤ 140737488355328 → rest.wf = true → Slim rest → acc.length + rest.lines.length ≤ 1000000 → Built vs acc →
    (∀ h' μ' ρ2 oa' oc' acc' vs', Own h' μ' ρ2 → Pcs ρ1 ρ2 [co, cm] [.sl oa' oc' 1 (acc'.map Wds.cell), .many vs'] → Built vs' acc' → acc'.map Wds.x = acc.map Wds.x ++ rest.lines → (∀ x, x ∈ vs → x ∈ vs') → Q (.slice oa' acc'.length oc') h') →
    unitAt P f_brickyardref13_all 3 [0, 3, 4] [.slice a (pre.app rest).len cap, .slice oa acc.length oc, .int .i64 (pre.len : Int)] h Q
theorem rlines_10 {k m : Nat} {args : List Str} {body rest : F} (IB : LR body) (IR : LR rest) {cm : Nat} (hcm : ρ cm = none) {ρ1 ρ' : Store} {co cx cn p na nc ac bc oc cap : Nat} {oa aa ba a nx : Option Addr} {acc : List Wds} {vs : List (Option Addr × Nat × Nat × List Value)} {pre : F} {c : List Value}
    (O : Own h μ ρ') (W : Pcs ρ1 ρ' [cn, cx, co, cm] [.sl nx nc 1 (strs (lineM k args m)), .var p [.int .i64 k, .slice aa args.length ac, .int .i64 m, .slice ba body.len bc], .sl oa oc 1 (acc.map Wds.cell), .many vs]) (hcn : ρ1 cn = none) (hcx : ρ1 cx = none) (hco : ρ1 co = none) (Fr : Fra [] ρ ρ1)
    (X : Vw ρ [] a c) (L : Lies (Vw ρ []) (pre.app (.cons k args m body rest)) c) (Lb : Ly ρ body ba) (hl : (pre.app (.cons k args m body rest)).len ≤ 140737488355328) (hbl : body.len ≤ 140737488355328) (hw : (F.cons k args m body rest).wf = true) (hs : Slim (.cons k args m body rest)) (hn : acc.length + (F.cons k args m body rest).lines.length ≤ 1000000) (B : Built vs acc) (hnx : na = (lineM k args m).length)
    (hq : ∀ h' μ' ρ2 oa' oc' acc' vs', Own h' μ' ρ2 → Pcs ρ1 ρ2 [co, cm] [.sl oa' oc' 1 (acc'.map Wds.cell), .many vs'] → Built vs' acc' → acc'.map Wds.x = acc.map Wds.x ++ (F.cons k args m body rest).lines → (∀ x, x ∈ vs → x ∈ vs') → Q (.slice oa' acc'.length oc') h') :
    unitAt P f_brickyardref13_all 10 [0, 3, 4, 5, 6] [.slice a (pre.app (.cons k args m body rest)).len cap, .slice oa acc.length oc, .int .i64 (pre.len : Int), .pointer (some ⟨p, 0, none⟩), .slice nx na nc] h Q := by
  subst hnx
  have hlt : pre.len < (pre.app (.cons k args m body rest)).len := app_lt
  simp only [F.wf, Bool.and_eq_true] at hw
  obtain ⟨⟨⟨w1, w2⟩, w3⟩, w4⟩ := hw
  obtain ⟨s1, s2, s3⟩ := hs
  have hlines : (F.cons (k : Int) args (m : Int) body rest).lines = lineM k args m :: ((if opensM k = true then body.lines ++ [[wEnd]] else []) ++ rest.lines) := rfl
  rw [hlines] at hn hq
  simp only [List.length_cons, List.length_append] at hn
  obtain ⟨e3, e4⟩ := snocs pre k args m body
  have hcap : (lineM (k : Int) args (m : Int)).length ≤ nc := by have := w_cap O W 0 rfl; simpa using this
  refine r_brickyardref13_all_10 ?_
  obtain ⟨μ1, ρ2, O1, W1⟩ := w_into O W hcn 2 rfl
  obtain ⟨μ2, ρ3, ch, O2, W2, hch⟩ := w_block O1 W1 [.slice nx (lineM (k : Int) args (m : Int)).length nc] (n := 1) (sz := 1) rfl rfl
  refine w_app (P := P) O2 W2 2 (n := acc.length) (m := 1) ti_ty_sl_sl_string ti_ty_sl_string (by decide) rfl (by simp) (w_sl O2 W2 0 rfl) rfl rfl (by omega) (by omega) fun oa1 oc1 h2 μ4 ρ5 O4 W4 => ?_
  have W5 := W4.tail hch
  have W6 : Pcs ρ1 ρ5 [cx, co, cm] [.var p [.int .i64 k, .slice aa args.length ac, .int .i64 m, .slice ba body.len bc], .sl oa1 oc1 1 ((acc ++ [(⟨nx, nc, lineM k args m⟩ : Wds)]).map Wds.cell), .many ((nx, nc, 1, strs (lineM k args m)) :: vs)] := W5.eq (by simp [Wds.cell])
  have B1 := B.snoc (p := ⟨nx, nc, lineM k args m⟩) hcap
  simp only [oB_some, bC_true, bC_false, vInt_int, vBool_bool, vStr_string, vPtr_pointer, vSl_slice, vMap_map, vFun_func, vAgg_agg, vTup_tuple, vIfc_nil, vIfc_iface, lC_cons, lN_nil, aP_some, shO_none, shO_some, Option.isNone_none, Option.isNone_some, Bool.not_true, Bool.not_false]
  refine w_rd O4 W6 0 (j := 0) rfl rfl ?_
  simp only [oB_some, bC_true, bC_false, vInt_int, vBool_bool, vStr_string, vPtr_pointer, vSl_slice, vMap_map, vFun_func, vAgg_agg, vTup_tuple, vIfc_nil, vIfc_iface, lC_cons, lN_nil, aP_some, shO_none, shO_some, Option.isNone_none, Option.isNone_some, Bool.not_true, Bool.not_false]
  refine rOpens_ok ?_
  simp only [oB_some, bC_true, bC_false, vInt_int, vBool_bool, vStr_string, vPtr_pointer, vSl_slice, vMap_map, vFun_func, vAgg_agg, vTup_tuple, vIfc_nil, vIfc_iface, lC_cons, lN_nil, aP_some, shO_none, shO_some, Option.isNone_none, Option.isNone_some, Bool.not_true, Bool.not_false]
  rw [wrapS (by omega)]
  have hnm : ∀ c, c ∈ [cx, co, cm] → ρ c = none := fun c hc => by
    simp at hc; rcases hc with rfl | rfl | rfl
    · exact Fr.none0 hcx
    · exact Fr.none0 hco
    · exact hcm
  refine bC_iff (fun ho => ?_) (fun ho => ?_)
  · rw [ho] at hn hq
    simp only [if_true, List.length_append, List.length_cons, List.length_nil] at hn hq
    refine w_rd O4 W6 0 (j := 3) rfl rfl ?_
    simp only [oB_some, bC_true, bC_false, vInt_int, vBool_bool, vStr_string, vPtr_pointer, vSl_slice, vMap_map, vFun_func, vAgg_agg, vTup_tuple, vIfc_nil, vIfc_iface, lC_cons, lN_nil, aP_some, shO_none, shO_some, Option.isNone_none, Option.isNone_some, Bool.not_true, Bool.not_false]
    refine r_brickyardref13_all ?_
    obtain ⟨ρ7, cb, O6, W7, hcb⟩ := w_nil O4 W6.self.tail'.tail' 1
    have F6 : Fra [] ρ ρ5 := Fr.via W6.fra hnm
    obtain ⟨bcells, bX, bL⟩ := Lb
    refine IB hcm (acc := []) (pre := .nil) O6 W7 hcb F6 bX bL hbl w3 s2 (by simp only [List.length_nil]; omega) Built.nil fun h7 μ7 ρ8 ba2 bc2 accb vs2 O7 W8 B2 e2 hmore => ?_
    simp only [List.map_nil, List.nil_append] at e2
    have hlb : accb.length = body.lines.length := by have := congrArg List.length e2; simpa using this
    simp only [oB_some, bC_true, bC_false, vInt_int, vBool_bool, vStr_string, vPtr_pointer, vSl_slice, vMap_map, vFun_func, vAgg_agg, vTup_tuple, vIfc_nil, vIfc_iface, lC_cons, lN_nil, aP_some, shO_none, shO_some, Option.isNone_none, Option.isNone_some, Bool.not_true, Bool.not_false]
    have W9 := W6.call1 (fs := [cx, co]) (ms := [cm]) (xs := [_, _]) rfl W8 hcb
    have hcb1 : ρ1 cb = none := W6.not0 hcb
    refine w_app (P := P) O7 W9 2 (n := acc.length + 1) (m := accb.length) ti_ty_sl_sl_string ti_ty_sl_string (by decide) rfl (by simp) (w_sl O7 W9 0 rfl) (by simp) (allOne_cells _) (by omega) (by omega) fun oa3 oc3 h8 μ8 ρ9 O8 W10 => ?_
    have W11 := W10.tail hcb1
    have W12 : Pcs ρ1 ρ9 [cx, co, cm] [.var p [.int .i64 k, .slice aa args.length ac, .int .i64 m, .slice ba body.len bc], .sl oa3 oc3 1 ((acc ++ [(⟨nx, nc, lineM k args m⟩ : Wds)] ++ accb).map Wds.cell), .many vs2] := W11.eq (by simp)
    have B3 : Built vs2 (acc ++ [(⟨nx, nc, lineM k args m⟩ : Wds)] ++ accb) := (B1.more hmore).app B2
    simp only [oB_some, bC_true, bC_false, vInt_int, vBool_bool, vStr_string, vPtr_pointer, vSl_slice, vMap_map, vFun_func, vAgg_agg, vTup_tuple, vIfc_nil, vIfc_iface, lC_cons, lN_nil, aP_some, shO_none, shO_some, Option.isNone_none, Option.isNone_some, Bool.not_true, Bool.not_false]
    rw [show acc.length + 1 + accb.length = (acc ++ [(⟨nx, nc, lineM k args m⟩ : Wds)] ++ accb).length from by simp; omega]
    refine app_line O8 W12 1 2 (by decide) rfl rfl [wEnd] (by simp; omega) fun h9 μ9 ρ10 oa4 oc4 q hq1 hq2 O9 W13 => ?_
    simp only [oB_some, bC_true, bC_false, vInt_int, vBool_bool, vStr_string, vPtr_pointer, vSl_slice, vMap_map, vFun_func, vAgg_agg, vTup_tuple, vIfc_nil, vIfc_iface, lC_cons, lN_nil, aP_some, shO_none, shO_some, Option.isNone_none, Option.isNone_some, Bool.not_true, Bool.not_false]
    have W14 := W13.tail hcx
    have B4 := B3.snoc (p := q) (by rw [hq1, hq2]; decide)
    rw [← e3] at L hl ⊢
    rw [← e4, show (acc ++ [(⟨nx, nc, lineM k args m⟩ : Wds)] ++ accb).length + 1 = (acc ++ [(⟨nx, nc, lineM k args m⟩ : Wds)] ++ accb ++ [q]).length from by simp; omega]
    refine IR hcm O9 W14 hco Fr X L hl w4 s3 (by simp; omega) B4 fun h' μ' ρ' oa' oc' acc' vs' O' W' B' e' hm' => ?_
    refine hq h' μ' ρ' oa' oc' acc' vs' O' W' B' ?_ fun x hx => hm' _ (List.mem_cons_of_mem _ (hmore _ (List.mem_cons_of_mem _ hx)))
    rw [e']
    simp [hq1, e2]
  · rw [ho] at hn hq
    simp only [Bool.false_eq_true, if_false, List.length_nil, List.nil_append] at hn hq
    rw [← e3] at L hl ⊢
    rw [← e4, show acc.length + 1 = (acc ++ [(⟨nx, nc, lineM k args m⟩ : Wds)]).length from by simp]
    refine IR hcm O4 (W6.tail hcx) hco Fr X L hl w4 s3 (by simp; omega) B1 fun h' μ' ρ' oa' oc' acc' vs' O' W' B' e' hm' => ?_
    refine hq h' μ' ρ' oa' oc' acc' vs' O' W' B' ?_ fun x hx => hm' _ (List.mem_cons_of_mem _ hx)
    rw [e']
    simp
theorem rlines_loop : ∀ rest : F, LR rest
  | .nil => by
    intro ρ cm hcm h μ ρ1 ρ' co oa oc acc vs Q pre a c cap O W hco Fr X L hl hw hs hn B hq
    refine r_brickyardref13_all_3 ?_
    rw [F.app_nil, geI (Nat.le_refl _)]
    simp only [oB_some, bC_true, bC_false, vInt_int, vBool_bool, vStr_string, vPtr_pointer, vSl_slice, vMap_map, vFun_func, vAgg_agg, vTup_tuple, vIfc_nil, vIfc_iface, lC_cons, lN_nil, aP_some, shO_none, shO_some, Option.isNone_none, Option.isNone_some, Bool.not_true, Bool.not_false]
    exact hq _ _ _ _ _ acc vs O W B (by simp [F.lines]) fun _ x => x
  | .cons op args kk body rest => by
    intro ρ cm hcm h μ ρ1 ρ' co oa oc acc vs Q pre a c cap O W hco Fr X L hl hw hs hn B hq
    have hlt : pre.len < (pre.app (.cons op args kk body rest)).len := app_lt
    have w1 : F.fine op args.length kk = true := by
      have := hw; simp only [F.wf, Bool.and_eq_true] at this; exact this.1.1.1
    unfold F.fine at w1
    simp only [Bool.and_eq_true, Bool.or_eq_true, decide_eq_true_eq] at w1
    obtain ⟨⟨⟨⟨⟨k1, k2⟩, k3⟩, k4⟩, k5⟩, k6⟩ := w1
    obtain ⟨k, rfl⟩ : ∃ k : Nat, op = k := ⟨op.toNat, by omega⟩
    obtain ⟨m, rfl⟩ : ∃ m : Nat, kk = m := ⟨kk.toNat, by omega⟩
    have hal := hs.1
    have hnm : ∀ c, c ∈ [co, cm] → ρ c = none := fun c hc => by
      simp at hc; rcases hc with rfl | rfl
      · exact Fr.none0 hco
      · exact hcm
    have F0 : Fra [] ρ ρ' := Fr.via W.fra hnm
    refine r_brickyardref13_all_3 ?_
    rw [ltI hlt]
    simp only [oB_some, bC_true, bC_false, vInt_int, vBool_bool, vStr_string, vPtr_pointer, vSl_slice, vMap_map, vFun_func, vAgg_agg, vTup_tuple, vIfc_nil, vIfc_iface, lC_cons, lN_nil, aP_some, shO_none, shO_some, Option.isNone_none, Option.isNone_some, Bool.not_true, Bool.not_false]
    refine st_copyB O F0 X L W rfl rfl fun h1 μ1 ρx cx aa ac ba bc O1 W1 hcx F1 va la => ?_
    have hcx0 : ρ cx = none := Fr.none0 hcx
    have hnm1 : ∀ c, c ∈ [cx, co, cm] → ρ c = none := fun c hc => by
      rcases List.mem_cons.1 hc with rfl | hc
      · exact hcx0
      · exact hnm c hc
    refine w_rd O1 W1 0 (j := 0) rfl rfl ?_
    simp only [oB_some, bC_true, bC_false, vInt_int, vBool_bool, vStr_string, vPtr_pointer, vSl_slice, vMap_map, vFun_func, vAgg_agg, vTup_tuple, vIfc_nil, vIfc_iface, lC_cons, lN_nil, aP_some, shO_none, shO_some, Option.isNone_none, Option.isNone_some, Bool.not_true, Bool.not_false]
    refine rWord_ok ?_
    simp only [oB_some, bC_true, bC_false, vInt_int, vBool_bool, vStr_string, vPtr_pointer, vSl_slice, vMap_map, vFun_func, vAgg_agg, vTup_tuple, vIfc_nil, vIfc_iface, lC_cons, lN_nil, aP_some, shO_none, shO_some, Option.isNone_none, Option.isNone_some, Bool.not_true, Bool.not_false]
    obtain ⟨μ3, ρ3, cn, O3, W3, hcn⟩ := w_block O1 W1 (strs [wordM k]) (n := 1) (sz := 1) rfl rfl
    have hnm3 : ∀ c, c ∈ [cn, cx, co, cm] → ρ c = none := fun c hc => by
      rcases List.mem_cons.1 hc with rfl | hc
      · exact Fr.none0 hcn
      · exact hnm1 c hc
    have F3 : Fra [] ρ ρ3 := Fr.via W3.fra hnm3
    repeat (first | refine ⟨rfl, ?_⟩ | refine ⟨trivial, ?_⟩ | simp only [oB_some, bC_true, bC_false, vInt_int, vBool_bool, vStr_string, vPtr_pointer, vSl_slice, vMap_map, vFun_func, vAgg_agg, vTup_tuple, vIfc_nil, vIfc_iface, lC_cons, lN_nil, aP_some, shO_none, shO_some, Option.isNone_none, Option.isNone_some, Bool.not_true, Bool.not_false] | refine w_rd (by assumption) (by assumption) 0 (by rfl) (by rfl) ?_ | refine w_rd (by assumption) (by assumption) 1 (by rfl) (by rfl) ?_ | refine w_wrL (by assumption) (by assumption) 0 (by rfl) (Nat.le_of_ble_eq_true (by rfl)) (by rfl) fun h ρz O W => ?_ | refine w_wrL (by assumption) (by assumption) 1 (by rfl) (Nat.le_of_ble_eq_true (by rfl)) (by rfl) fun h ρz O W => ?_ | refine w_wr (by assumption) (by assumption) 0 (by rfl) (Nat.le_of_ble_eq_true (by rfl)) (by rfl) fun h ρz O W => ?_ | refine w_wr (by assumption) (by assumption) 1 (by rfl) (Nat.le_of_ble_eq_true (by rfl)) (by rfl) fun h ρz O W => ?_)
    refine w_app (P := P) O3 W3 0 (n := 1) (m := args.length) ti_ty_sl_string ti_ty_string (by decide) rfl rfl ((va.keep F3).sl O3) (by simp) allOne_strs (by omega) (by omega) fun nx nc h4 μ4 ρ4 O4 W4 => ?_
    have hbl : body.len ≤ 140737488355328 := by
      have := len_lines body
      have w2 : (opensM k || decide (body.len = 0)) = true := by
        have := hw; simp only [F.wf, Bool.and_eq_true] at this; exact this.1.1.2
      cases ho : opensM (k : Int) with
      | true =>
        simp only [F.lines, ho, if_true, List.length_cons, List.length_append] at hn
        omega
      | false =>
        rw [ho] at w2
        simp at w2
        omega
    repeat (first | refine ⟨rfl, ?_⟩ | refine ⟨trivial, ?_⟩ | simp only [oB_some, bC_true, bC_false, vInt_int, vBool_bool, vStr_string, vPtr_pointer, vSl_slice, vMap_map, vFun_func, vAgg_agg, vTup_tuple, vIfc_nil, vIfc_iface, lC_cons, lN_nil, aP_some, shO_none, shO_some, Option.isNone_none, Option.isNone_some, Bool.not_true, Bool.not_false] | refine w_rd (by assumption) (by assumption) 0 (by rfl) (by rfl) ?_ | refine w_rd (by assumption) (by assumption) 1 (by rfl) (by rfl) ?_ | refine w_wrL (by assumption) (by assumption) 0 (by rfl) (Nat.le_of_ble_eq_true (by rfl)) (by rfl) fun h ρz O W => ?_ | refine w_wrL (by assumption) (by assumption) 1 (by rfl) (Nat.le_of_ble_eq_true (by rfl)) (by rfl) fun h ρz O W => ?_ | refine w_wr (by assumption) (by assumption) 0 (by rfl) (Nat.le_of_ble_eq_true (by rfl)) (by rfl) fun h ρz O W => ?_ | refine w_wr (by assumption) (by assumption) 1 (by rfl) (Nat.le_of_ble_eq_true (by rfl)) (by rfl) fun h ρz O W => ?_)
    have F4 : Fra [] ρ ρ4 := Fr.via W4.fra hnm3
    refine bC_iff (fun e10 => ?_) (fun e10 => ?_)
    · have e10 : k = 10 := by have := eqI e10; omega
      refine w_rd O4 W4 1 (j := 2) rfl rfl ?_
      simp only [oB_some, bC_true, bC_false, vInt_int, vBool_bool, vStr_string, vPtr_pointer, vSl_slice, vMap_map, vFun_func, vAgg_agg, vTup_tuple, vIfc_nil, vIfc_iface, lC_cons, lN_nil, aP_some, shO_none, shO_some, Option.isNone_none, Option.isNone_some, Bool.not_true, Bool.not_false]
      refine rDigits_ok O4 (n := m) (by omega) fun h5 μ5 ρ5 O5 F5 => ?_
      have W5 := W4.keep0 F5
      simp only [oB_some, bC_true, bC_false, vInt_int, vBool_bool, vStr_string, vPtr_pointer, vSl_slice, vMap_map, vFun_func, vAgg_agg, vTup_tuple, vIfc_nil, vIfc_iface, lC_cons, lN_nil, aP_some, shO_none, shO_some, Option.isNone_none, Option.isNone_some, Bool.not_true, Bool.not_false]
      obtain ⟨μ6, ρ6, c6, O6, W6, hc6⟩ := w_block O5 W5 (strs [digS m]) (n := 1) (sz := 1) rfl rfl
      refine w_app (P := P) O6 W6 1 (n := 1 + args.length) (m := 1) ti_ty_sl_string ti_ty_string (by decide) rfl (by simp; omega) (w_sl O6 W6 0 rfl) rfl rfl (by omega) (by omega) fun nx nc h7 μ7 ρ7 O7 W7 => ?_
      simp only [oB_some, bC_true, bC_false, vInt_int, vBool_bool, vStr_string, vPtr_pointer, vSl_slice, vMap_map, vFun_func, vAgg_agg, vTup_tuple, vIfc_nil, vIfc_iface, lC_cons, lN_nil, aP_some, shO_none, shO_some, Option.isNone_none, Option.isNone_some, Bool.not_true, Bool.not_false]
      have el : lineM (k : Int) args (m : Int) = [wordM k] ++ args ++ [digS m] := by
        unfold lineM; rw [if_pos (by omega)]; simp
      have W8 : Pcs ρ1 ρ7 [cn, cx, co, cm] [.sl nx nc 1 (strs (lineM k args m)), .var (AW.next h) [.int .i64 k, .slice aa args.length ac, .int .i64 m, .slice ba body.len bc], .sl oa oc 1 (acc.map Wds.cell), .many vs] := (W7.tail hc6).eq (by rw [el]; simp [strs])
      refine rlines_10 (rlines_loop body) (rlines_loop rest) hcm O7 W8 hcn hcx hco Fr X L la hl hbl hw hs hn B (by rw [el]; simp; omega) hq
    · have e10 : k ≠ 10 := by have := neI e10; omega
      have el : lineM (k : Int) args (m : Int) = [wordM k] ++ args := by
        unfold lineM; rw [if_neg (by omega)]; simp
      have W8 : Pcs ρ1 ρ4 [cn, cx, co, cm] [.sl nx nc 1 (strs (lineM k args m)), .var (AW.next h) [.int .i64 k, .slice aa args.length ac, .int .i64 m, .slice ba body.len bc], .sl oa oc 1 (acc.map Wds.cell), .many vs] := W4.eq (by rw [el]; simp [strs])
      refine rlines_10 (rlines_loop body) (rlines_loop rest) hcm O4 W8 hcn hcx hco Fr X L la hl hbl hw hs hn B (by rw [el]; simp; omega) hq
/-- The lines of statements. -/
theorem rlines_ok (O : Own h μ ρ) {f : F} {a : Option Addr} {cap : Nat} (X : Ly ρ f a) (hl : f.len ≤ 140737488355328) (hw : f.wf = true) (hs : Slim f) (hn : f.lines.length ≤ 1000000)
    (H : ∀ h' μ' ρ' co cm oa oc ps vs, Own h' μ' ρ' → Pcs ρ ρ' [co, cm] [.sl oa oc 1 (ps.map Wds.cell), .many vs] → ρ co = none → ρ cm = none → Built vs ps → ps.map Wds.x = f.lines → Q (.slice oa ps.length oc) h') : EvQ P f_brickyardref13_all [.slice a f.len cap] h Q := by
  refine r_brickyardref13_all ?_
  obtain ⟨c, X, L⟩ := X
  obtain ⟨ρ1, cm, O1, W1, hcm⟩ := w_many O (p00 (ρ := ρ))
  have W1' : Pcs ρ1 ρ1 [cm] [.many []] := W1.self
  obtain ⟨ρ2, co, O2, W2, hco⟩ := w_nil O1 W1' 1
  have F1 : Fra [] ρ ρ1 := W1.fra0 fun c hc => by simp at hc; rw [hc]; exact hcm
  refine rlines_loop f (pre := .nil) (acc := []) hcm O2 W2 hco F1 X L hl hw hs (by simp; omega) Built.nil fun h' μ' ρ' oa' oc' acc' vs' O' W' B' e' _ => ?_
  have hco0 : ρ co = none := Fra.none0 F1 hco
  have W3 : Pcs ρ ρ' [co, cm] [.sl oa' oc' 1 (acc'.map Wds.cell), .many vs'] := ⟨W'.nodup, W'.len, W'.at_, fun c r hn hc => W'.fra c r hn (F1 c r (by simp) hc)⟩
  exact H _ _ _ _ _ _ _ _ _ O' W3 hco0 hcm B' (by simpa using e')
/-- .. if it may be. -/
theorem rlinesB_ok (O : Own h μ ρ) {f : F} {a : Option Addr} {cap : Nat} (X : Ly ρ f a) (hl : f.len ≤ 140737488355328) (hz : f.size ≤ 1000000000) (hs : Slim f)
    (H1 : f.may = false → RdQ Q ρ (.tuple ⟨[.slice none 0 0, .int .i64 2]⟩))
    (H : f.may = true → ∀ h' μ' ρ' co cm oa oc ps vs, Own h' μ' ρ' → Pcs ρ ρ' [co, cm] [.sl oa oc 1 (ps.map Wds.cell), .many vs] → ρ co = none → ρ cm = none → Built vs ps → ps.map Wds.x = f.lines → Q (.tuple ⟨[.slice oa ps.length oc, .int .i64 0]⟩) h') : EvQ P f_brickyardref13_Lines [.slice a f.len cap] h Q := by
  refine r_brickyardref13_Lines ?_
  refine rmay_ok O X hz fun h1 μ1 ρ1 O1 F1 => ?_
  simp only [oB_some, bC_true, bC_false, vInt_int, vBool_bool, vStr_string, vPtr_pointer, vSl_slice, vMap_map, vFun_func, vAgg_agg, vTup_tuple, vIfc_nil, vIfc_iface, lC_cons, lN_nil, aP_some, shO_none, shO_some, Option.isNone_none, Option.isNone_some, Bool.not_true, Bool.not_false]
  refine bC_iff (fun e => ?_) (fun e => ?_)
  · exact H1 (nb e) h1 μ1 ρ1 O1 F1
  have e := nb' e
  obtain ⟨m1, m2, m3⟩ := F.may_iff.1 e
  have hlen := F.lines_len f
  refine rlines_ok O1 (X.keep F1) hl m1 hs (by omega) fun h' μ' ρ' co cm oa oc ps vs O' W' hco hcm B' e' => ?_
  simp only [oB_some, bC_true, bC_false, vInt_int, vBool_bool, vStr_string, vPtr_pointer, vSl_slice, vMap_map, vFun_func, vAgg_agg, vTup_tuple, vIfc_nil, vIfc_iface, lC_cons, lN_nil, aP_some, shO_none, shO_some, Option.isNone_none, Option.isNone_some, Bool.not_true, Bool.not_false]
  have W3 : Pcs ρ ρ' [co, cm] [.sl oa oc 1 (ps.map Wds.cell), .many vs] := ⟨W'.nodup, W'.len, W'.at_, fun c r hn hc => W'.fra c r hn (F1 c r (by simp) hc)⟩
  exact H e _ _ _ _ _ _ _ _ _ O' W3 (Fra.none0 F1 hco) (Fra.none0 F1 hcm) B' e'
end Go.Proofs.YtgdkekdedgkglaaDoor
end

section
/- Rules of walks, printed by a program of ours: group ALex. -/
namespace Go.Proofs.YtgdkekdedgkglaaDoor
open Go.Abs
set_option maxRecDepth 100000
theorem r_p_strings_Builder_copyCheck {p1 : Option Addr} {h : AW} {Q : Value → AW → Prop} (H : aP p1 fun m2 m3 => oB (AW.rd h m2 m3) fun v4 => vPtr v4 fun p5 => bC (Option.isNone p5) (oP (convA P h
  ty_p_strings_Builder ty_unsafe_Pointer (Value.pointer p1)) fun v6 h7 => vPtr v6 fun p8 => EvQ P f_abi_NoEscape [Value.pointer p8] h7 fun v9 h10 => vPtr v9 fun p11 => oP (convA P h10 ty_unsafe_Pointer ty_p_strings_Builder (Value.pointer
  p11)) fun v12 h13 => vPtr v12 fun p14 => aP p1 fun m15 m16 => oB (AW.wr h13 m15 m16 (Value.pointer p14)) fun h17 => Q (Value.tuple (Array.mk [])) h17) (aP p1 fun m18 m19 => oB
  (AW.rd h m18 m19) fun v20 => vPtr v20 fun p21 => oB (eqV P ty_p_strings_Builder false (Value.pointer p21) (Value.pointer p1)) fun b22 => bC (!b22) False (Q (Value.tuple (Array.mk [])) h))) :
  EvQ P f_p_strings_Builder_copyCheck [Value.pointer p1] h Q := fn_ok (n := 400) (ann := annOf []) (Eq.mp (by kernel_rfl) H)
theorem r_lex_Show {s1 : ByteArray} {h : AW} {Q : Value → AW → Prop} (H : EvQ P f_lex_Plain [Value.string s1] h fun v2 h3 => vBool v2 fun b4 => bC b4 (Q (Value.string s1) h3) (EvQ P f_lex_Quote
  [Value.string s1] h3 fun v5 h6 => vStr v5 fun s7 => Q (Value.string s7) h6)) : EvQ P f_lex_Show [Value.string s1] h Q := fn_ok (n := 400) (ann := annOf []) (Eq.mp (by kernel_rfl) H)
theorem r_brickyardref11_Show {s1 : ByteArray} {h : AW} {Q : Value → AW → Prop} (H : EvQ P f_brickyardref11_Plain [Value.string s1] h fun v2 h3 => vBool v2 fun b4 => bC b4 (Q (Value.string s1) h3) (EvQ P f_brickyardref11_Quote
  [Value.string s1] h3 fun v5 h6 => vStr v5 fun s7 => Q (Value.string s7) h6)) : EvQ P f_brickyardref11_Show [Value.string s1] h Q := fn_ok (n := 400) (ann := annOf []) (Eq.mp (by kernel_rfl) H)
theorem r_lex_Plain {s1 : ByteArray} {h : AW} {Q : Value → AW → Prop} (H : unitAt P f_lex_Plain 2 [0, 5, 6] [Value.string s1, Value.int IntKind.i64 (↑(ByteArray.size s1) : Int), Value.int
  IntKind.i64 0] h Q) : EvQ P f_lex_Plain [Value.string s1] h Q := fn_ok (n := 400) (ann := annOf [(2, [0, 5, 6])]) (Eq.mp (by kernel_rfl) H)
theorem r_lex_Plain_2 {s1 : ByteArray} {n2 : Int} {n3 : Int} {h : AW} {Q : Value → AW → Prop} (H : bC (decide (n3 < n2)) (oB (natIdx n3 (ByteArray.size s1)) fun m4 => oB (bAt s1 m4) fun
  n5 => EvQ P f_lex_bare [Value.int IntKind.u8 n5] h fun v6 h7 => vBool v6 fun b8 => bC (!b8) (Q (Value.bool false) h7) (unitAt P f_lex_Plain 2 [0, 5, 6] [Value.string s1, Value.int
  IntKind.i64 n2, Value.int IntKind.i64 (IntKind.wrap IntKind.i64 (n3 + 1))] h7 Q)) (Q (Value.bool !bEq s1 (ByteArray.mk #[])) h)) : unitAt P f_lex_Plain 2 [0, 5, 6] [Value.string s1,
  Value.int IntKind.i64 n2, Value.int IntKind.i64 n3] h Q := unit_ok (n := 400) (ann := annOf [(2, [0, 5, 6])]) (Eq.mp (by kernel_rfl) H)
theorem r_lex_Quote {s1 : ByteArray} {h : AW} {Q : Value → AW → Prop} (H : EvQ P f_p_strings_Builder_WriteByte [Value.pointer (some (Addr.mk (AW.next h) 0 none)), Value.int IntKind.u8 34] (AW.tag (AW.addVar h
  [Value.pointer none, Value.slice none 0 0]) (AW.next h) ty_strings_Builder) fun v2 h3 => vIfc v2 (unitAt P f_lex_Quote 4 [0, 3, 8, 9] [Value.string s1, Value.pointer (some (Addr.mk (AW.next h) 0
  none)), Value.int IntKind.i64 (↑(ByteArray.size s1) : Int), Value.int IntKind.i64 0] h3 Q) fun m4 v5 => unitAt P f_lex_Quote 4 [0, 3, 8, 9] [Value.string s1, Value.pointer (some
  (Addr.mk (AW.next h) 0 none)), Value.int IntKind.i64 (↑(ByteArray.size s1) : Int), Value.int IntKind.i64 0] h3 Q) : EvQ P f_lex_Quote [Value.string s1] h Q := fn_ok (n := 400) (ann :=
  annOf [(4, [0, 3, 8, 9]), (14, [0, 3, 5, 8, 9]), (15, [0, 3, 5, 8, 9])]) (Eq.mp (by kernel_rfl) H)
theorem r_lex_Quote_4 {s1 : ByteArray} {m2 : Nat} {n3 : Int} {n4 : Int} {h : AW} {Q : Value → AW → Prop} (H : bC (decide (n4 < n3)) (oB (natIdx n4 (ByteArray.size s1)) fun m5 => oB (bAt
  s1 m5) fun n6 => bC (n6 == 10) (EvQ P f_p_strings_Builder_WriteString [Value.pointer (some (Addr.mk m2 0 none)), Value.string (ByteArray.mk #[92, 110])] h fun v7 h8 => vTup v7 fun l9 => lC l9 fun v10 l11
  => vInt IntKind.i64 v10 fun n12 => lC l11 fun v13 l14 => vIfc v13 (lN l14 (unitAt P f_lex_Quote 4 [0, 3, 8, 9] [Value.string s1, Value.pointer (some (Addr.mk m2 0 none)), Value.int
  IntKind.i64 n3, Value.int IntKind.i64 (IntKind.wrap IntKind.i64 (n4 + 1))] h8 Q)) fun m15 v16 => lN l14 (unitAt P f_lex_Quote 4 [0, 3, 8, 9] [Value.string s1, Value.pointer (some
  (Addr.mk m2 0 none)), Value.int IntKind.i64 n3, Value.int IntKind.i64 (IntKind.wrap IntKind.i64 (n4 + 1))] h8 Q)) (bC (n6 == 9) (EvQ P f_p_strings_Builder_WriteString [Value.pointer (some (Addr.mk m2 0
  none)), Value.string (ByteArray.mk #[92, 116])] h fun v17 h18 => vTup v17 fun l19 => lC l19 fun v20 l21 => vInt IntKind.i64 v20 fun n22 => lC l21 fun v23 l24 => vIfc v23 (lN l24
  (unitAt P f_lex_Quote 4 [0, 3, 8, 9] [Value.string s1, Value.pointer (some (Addr.mk m2 0 none)), Value.int IntKind.i64 n3, Value.int IntKind.i64 (IntKind.wrap IntKind.i64 (n4 + 1))] h18
  Q)) fun m25 v26 => lN l24 (unitAt P f_lex_Quote 4 [0, 3, 8, 9] [Value.string s1, Value.pointer (some (Addr.mk m2 0 none)), Value.int IntKind.i64 n3, Value.int IntKind.i64 (IntKind.wrap
  IntKind.i64 (n4 + 1))] h18 Q)) (bC (n6 == 34) (unitAt P f_lex_Quote 14 [0, 3, 5, 8, 9] [Value.string s1, Value.pointer (some (Addr.mk m2 0 none)), Value.int IntKind.u8 n6, Value.int
  IntKind.i64 n3, Value.int IntKind.i64 n4] h Q) (bC (n6 == 92) (unitAt P f_lex_Quote 14 [0, 3, 5, 8, 9] [Value.string s1, Value.pointer (some (Addr.mk m2 0 none)), Value.int IntKind.u8
  n6, Value.int IntKind.i64 n3, Value.int IntKind.i64 n4] h Q) (unitAt P f_lex_Quote 15 [0, 3, 5, 8, 9] [Value.string s1, Value.pointer (some (Addr.mk m2 0 none)), Value.int IntKind.u8
  n6, Value.int IntKind.i64 n3, Value.int IntKind.i64 n4] h Q))))) (EvQ P f_p_strings_Builder_WriteByte [Value.pointer (some (Addr.mk m2 0 none)), Value.int IntKind.u8 34] h fun v27 h28 => vIfc v27 (EvQ P
  f_p_strings_Builder_String [Value.pointer (some (Addr.mk m2 0 none))] h28 fun v29 h30 => vStr v29 fun s31 => Q (Value.string s31) h30) fun m32 v33 => EvQ P f_p_strings_Builder_String [Value.pointer (some (Addr.mk m2 0
  none))] h28 fun v34 h35 => vStr v34 fun s36 => Q (Value.string s36) h35)) : unitAt P f_lex_Quote 4 [0, 3, 8, 9] [Value.string s1, Value.pointer (some (Addr.mk m2 0 none)), Value.int
  IntKind.i64 n3, Value.int IntKind.i64 n4] h Q := unit_ok (n := 400) (ann := annOf [(4, [0, 3, 8, 9]), (14, [0, 3, 5, 8, 9]), (15, [0, 3, 5, 8, 9])]) (Eq.mp (by kernel_rfl) H)
theorem r_lex_Quote_14 {s1 : ByteArray} {m2 : Nat} {n3 : Int} {n4 : Int} {n5 : Int} {h : AW} {Q : Value → AW → Prop} (H : EvQ P f_p_strings_Builder_WriteByte [Value.pointer (some (Addr.mk m2 0 none)), Value.int
  IntKind.u8 92] h fun v6 h7 => vIfc v6 (unitAt P f_lex_Quote 15 [0, 3, 5, 8, 9] [Value.string s1, Value.pointer (some (Addr.mk m2 0 none)), Value.int IntKind.u8 n3, Value.int IntKind.i64
  n4, Value.int IntKind.i64 n5] h7 Q) fun m8 v9 => unitAt P f_lex_Quote 15 [0, 3, 5, 8, 9] [Value.string s1, Value.pointer (some (Addr.mk m2 0 none)), Value.int IntKind.u8 n3, Value.int
  IntKind.i64 n4, Value.int IntKind.i64 n5] h7 Q) : unitAt P f_lex_Quote 14 [0, 3, 5, 8, 9] [Value.string s1, Value.pointer (some (Addr.mk m2 0 none)), Value.int IntKind.u8 n3, Value.int
  IntKind.i64 n4, Value.int IntKind.i64 n5] h Q := unit_ok (n := 400) (ann := annOf [(4, [0, 3, 8, 9]), (14, [0, 3, 5, 8, 9]), (15, [0, 3, 5, 8, 9])]) (Eq.mp (by kernel_rfl) H)
theorem r_lex_Quote_15 {s1 : ByteArray} {m2 : Nat} {n3 : Int} {n4 : Int} {n5 : Int} {h : AW} {Q : Value → AW → Prop} (H : EvQ P f_p_strings_Builder_WriteByte [Value.pointer (some (Addr.mk m2 0 none)), Value.int
  IntKind.u8 n3] h fun v6 h7 => vIfc v6 (unitAt P f_lex_Quote 4 [0, 3, 8, 9] [Value.string s1, Value.pointer (some (Addr.mk m2 0 none)), Value.int IntKind.i64 n4, Value.int IntKind.i64
  (IntKind.wrap IntKind.i64 (n5 + 1))] h7 Q) fun m8 v9 => unitAt P f_lex_Quote 4 [0, 3, 8, 9] [Value.string s1, Value.pointer (some (Addr.mk m2 0 none)), Value.int IntKind.i64 n4,
  Value.int IntKind.i64 (IntKind.wrap IntKind.i64 (n5 + 1))] h7 Q) : unitAt P f_lex_Quote 15 [0, 3, 5, 8, 9] [Value.string s1, Value.pointer (some (Addr.mk m2 0 none)), Value.int
  IntKind.u8 n3, Value.int IntKind.i64 n4, Value.int IntKind.i64 n5] h Q := unit_ok (n := 400) (ann := annOf [(4, [0, 3, 8, 9]), (14, [0, 3, 5, 8, 9]), (15, [0, 3, 5, 8, 9])])
  (Eq.mp (by kernel_rfl) H)
theorem r_brickyardref11_Plain {s1 : ByteArray} {h : AW} {Q : Value → AW → Prop} (H : unitAt P f_brickyardref11_Plain 2 [0, 3] [Value.string s1, Value.int IntKind.i64 0] h Q) : EvQ P f_brickyardref11_Plain [Value.string s1] h Q :=
  fn_ok (n := 400) (ann := annOf [(2, [0, 3])]) (Eq.mp (by kernel_rfl) H)
theorem r_brickyardref11_Plain_2 {s1 : ByteArray} {n2 : Int} {h : AW} {Q : Value → AW → Prop} (H : bC (decide (n2 < (↑(ByteArray.size s1) : Int))) (oB (natIdx n2 (ByteArray.size s1)) fun m3 => oB
  (bAt s1 m3) fun n4 => EvQ P f_brickyardref11_Bare [Value.int IntKind.u8 n4] h fun v5 h6 => vBool v5 fun b7 => bC (!b7) (Q (Value.bool false) h6) (unitAt P f_brickyardref11_Plain 2 [0, 3] [Value.string s1,
  Value.int IntKind.i64 (IntKind.wrap IntKind.i64 (n2 + 1))] h6 Q)) (Q (Value.bool (decide ((↑(ByteArray.size s1) : Int) > 0))) h)) : unitAt P f_brickyardref11_Plain 2 [0, 3] [Value.string s1,
  Value.int IntKind.i64 n2] h Q := unit_ok (n := 400) (ann := annOf [(2, [0, 3])]) (Eq.mp (by kernel_rfl) H)
theorem r_brickyardref11_Quote {s1 : ByteArray} {h : AW} {Q : Value → AW → Prop} (H : unitAt P f_brickyardref11_Quote 3 [0, 3, 4] [Value.string s1, Value.slice (some (Addr.mk (AW.next h) 0 none)) 1 1, Value.int
  IntKind.i64 0] (AW.addVar h [Value.int IntKind.u8 34]) Q) : EvQ P f_brickyardref11_Quote [Value.string s1] h Q := fn_ok (n := 400) (ann := annOf [(3, [0, 3, 4]), (9, [0, 3, 4]), (10, [0, 3, 4,
  14])]) (Eq.mp (by kernel_rfl) H)
theorem r_brickyardref11_Quote_3 {s1 : ByteArray} {p2 : Option Addr} {m3 : Nat} {m4 : Nat} {n5 : Int} {h : AW} {Q : Value → AW → Prop} (H : bC (decide (n5 < (↑(ByteArray.size s1) : Int))) (oB
  (natIdx n5 (ByteArray.size s1)) fun m6 => oB (bAt s1 m6) fun n7 => bC (n7 == 34) (unitAt P f_brickyardref11_Quote 9 [0, 3, 4] [Value.string s1, Value.slice p2 m3 m4, Value.int IntKind.i64 n5] h Q)
  (bC (n7 == 92) (unitAt P f_brickyardref11_Quote 9 [0, 3, 4] [Value.string s1, Value.slice p2 m3 m4, Value.int IntKind.i64 n5] h Q) (unitAt P f_brickyardref11_Quote 10 [0, 3, 4, 14] [Value.string s1, Value.slice p2
  m3 m4, Value.int IntKind.i64 n5, Value.int IntKind.u8 n7] h Q))) (oP (appendB P (AW.addVar h [Value.int IntKind.u8 34]) (Array.mk [ty_sl_uint8, ty_sl_uint8]) [Value.slice p2 m3 m4,
  Value.slice (some (Addr.mk (AW.next h) 0 none)) 1 1]) fun v8 h9 => vSl v8 fun p10 m11 m12 => oB (AW.bytes h9 p10 m11) fun s13 => Q (Value.string s13) h9)) : unitAt P f_brickyardref11_Quote 3 [0,
  3, 4] [Value.string s1, Value.slice p2 m3 m4, Value.int IntKind.i64 n5] h Q := unit_ok (n := 400) (ann := annOf [(3, [0, 3, 4]), (9, [0, 3, 4]), (10, [0, 3, 4, 14])]) (Eq.mp (by
  kernel_rfl) H)
theorem r_brickyardref11_Quote_9 {s1 : ByteArray} {p2 : Option Addr} {m3 : Nat} {m4 : Nat} {n5 : Int} {h : AW} {Q : Value → AW → Prop} (H : oB (natIdx n5 (ByteArray.size s1)) fun m6 => oB (bAt s1
  m6) fun n7 => oP (appendB P (AW.addVar h [Value.int IntKind.u8 92, Value.int IntKind.u8 n7]) (Array.mk [ty_sl_uint8, ty_sl_uint8]) [Value.slice p2 m3 m4, Value.slice (some (Addr.mk
  (AW.next h) 0 none)) 2 2]) fun v8 h9 => vSl v8 fun p10 m11 m12 => unitAt P f_brickyardref11_Quote 3 [0, 3, 4] [Value.string s1, Value.slice p10 m11 m12, Value.int IntKind.i64 (IntKind.wrap
  IntKind.i64 (n5 + 1))] h9 Q) : unitAt P f_brickyardref11_Quote 9 [0, 3, 4] [Value.string s1, Value.slice p2 m3 m4, Value.int IntKind.i64 n5] h Q := unit_ok (n := 400) (ann := annOf [(3, [0, 3,
  4]), (9, [0, 3, 4]), (10, [0, 3, 4, 14])]) (Eq.mp (by kernel_rfl) H)
theorem r_brickyardref11_Quote_10 {s1 : ByteArray} {p2 : Option Addr} {m3 : Nat} {m4 : Nat} {n5 : Int} {n6 : Int} {h : AW} {Q : Value → AW → Prop} (H : bC (n6 == 10) (oP (appendB P (AW.addVar h
  [Value.int IntKind.u8 92, Value.int IntKind.u8 110]) (Array.mk [ty_sl_uint8, ty_sl_uint8]) [Value.slice p2 m3 m4, Value.slice (some (Addr.mk (AW.next h) 0 none)) 2 2]) fun v7 h8 => vSl v7
  fun p9 m10 m11 => unitAt P f_brickyardref11_Quote 3 [0, 3, 4] [Value.string s1, Value.slice p9 m10 m11, Value.int IntKind.i64 (IntKind.wrap IntKind.i64 (n5 + 1))] h8 Q) (bC (n6 == 9) (oP (appendB
  P (AW.addVar h [Value.int IntKind.u8 92, Value.int IntKind.u8 116]) (Array.mk [ty_sl_uint8, ty_sl_uint8]) [Value.slice p2 m3 m4, Value.slice (some (Addr.mk (AW.next h) 0 none)) 2 2]) fun
  v12 h13 => vSl v12 fun p14 m15 m16 => unitAt P f_brickyardref11_Quote 3 [0, 3, 4] [Value.string s1, Value.slice p14 m15 m16, Value.int IntKind.i64 (IntKind.wrap IntKind.i64 (n5 + 1))] h13 Q) (oB
  (natIdx n5 (ByteArray.size s1)) fun m17 => oB (bAt s1 m17) fun n18 => oP (appendB P (AW.addVar h [Value.int IntKind.u8 n18]) (Array.mk [ty_sl_uint8, ty_sl_uint8]) [Value.slice p2 m3 m4,
  Value.slice (some (Addr.mk (AW.next h) 0 none)) 1 1]) fun v19 h20 => vSl v19 fun p21 m22 m23 => unitAt P f_brickyardref11_Quote 3 [0, 3, 4] [Value.string s1, Value.slice p21 m22 m23, Value.int
  IntKind.i64 (IntKind.wrap IntKind.i64 (n5 + 1))] h20 Q))) : unitAt P f_brickyardref11_Quote 10 [0, 3, 4, 14] [Value.string s1, Value.slice p2 m3 m4, Value.int IntKind.i64 n5, Value.int IntKind.u8
  n6] h Q := unit_ok (n := 400) (ann := annOf [(3, [0, 3, 4]), (9, [0, 3, 4]), (10, [0, 3, 4, 14])]) (Eq.mp (by kernel_rfl) H)
theorem r_lex_bare {n1 : Int} {h : AW} {Q : Value → AW → Prop} (H : bC (n1 == 34) (Q (Value.bool false) h) (bC (n1 == 35) (Q (Value.bool false) h) (bC (n1 == 58) (Q (Value.bool false)
  h) (bC (n1 == 61) (Q (Value.bool false) h) (bC (n1 == 92) (Q (Value.bool false) h) (bC (decide (n1 > 32)) (Q (Value.bool (decide (n1 < 127))) h) (Q (Value.bool false) h))))))) :
  EvQ P f_lex_bare [Value.int IntKind.u8 n1] h Q := fn_ok (n := 400) (ann := annOf []) (Eq.mp (by kernel_rfl) H)
theorem r_brickyardref11_Bare {n1 : Int} {h : AW} {Q : Value → AW → Prop} (H : bC (decide (n1 ≥ 33)) (bC (decide (n1 ≤ 126)) (bC (n1 != 34) (bC (n1 != 35) (bC (n1 != 58) (bC (n1 != 61) (Q
  (Value.bool (n1 != 92)) h) (Q (Value.bool false) h)) (Q (Value.bool false) h)) (Q (Value.bool false) h)) (Q (Value.bool false) h)) (Q (Value.bool false) h)) (Q (Value.bool false)
  h)) : EvQ P f_brickyardref11_Bare [Value.int IntKind.u8 n1] h Q := fn_ok (n := 400) (ann := annOf []) (Eq.mp (by kernel_rfl) H)
end Go.Proofs.YtgdkekdedgkglaaDoor
end
