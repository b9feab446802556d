/- A deterministic heap for the model, proved sound, and walks of the program over it: part 8. No condition. -/
import Derived.Test.YtgdkekdedgkglaaDoorAb1
import Derived.Test.YtgdkekdedgkglaaDoorAb2
import Derived.Test.YtgdkekdedgkglaaDoorAb3
import Derived.Test.YtgdkekdedgkglaaDoorAb4
import Derived.Test.YtgdkekdedgkglaaDoorAb5
import Derived.Test.YtgdkekdedgkglaaDoorCd2
import Derived.Test.YtgdkekdedgkglaaDoorCd1
set_option linter.unusedVariables false
set_option linter.unusedSimpArgs false
set_option linter.unusedSectionVars false
section
/- The document's reading of a line. -/
namespace Go.Proofs.YtgdkekdedgkglaaDoor
open Go.Abs Go.Abs.Fo
set_option maxRecDepth 100000
attribute [local irreducible] unitAt EvQ
variable {h : AW} {μ : Paint} {ρ : Store} {Q : Value → AW → Prop}

/-- A statement comes back; what is none may be anything. -/
structure NewY (Q : Value → AW → Prop) (ρ : Store) (x : X) : Prop where
  yes : x.ok = true → NewX Q ρ x
  no : x.ok = false → ∀ op oa an oc kk h' μ' ρ', Own h' μ' ρ' → Fra [] ρ ρ' → Q (.tuple ⟨[.agg ⟨[.int .i64 op, .slice oa an oc, .int .i64 kk, .slice none 0 0]⟩, .bool false]⟩) h'
theorem rstmt_loop {w : Str} {args : List Str} {a : Option Addr} {cap : Nat} (V : Vw ρ [] a (strs (w :: args))) (hc : (w :: args).length ≤ cap) (hl : args.length ≤ 1000000) (hq : NewY Q ρ (stmtM (w :: args))) :
    ∀ (d k : Nat) {h : AW} {μ : Paint} {ρ' : Store} {p4 c4 : Nat}, 13 - k = d → 1 ≤ k → k ≤ 13 → (opOf w = 0 ∨ k ≤ opOf w) → Own h μ ρ' → Pcs ρ ρ' [c4] [.var p4 [.int .i64 0, .slice none 0 0, .int .i64 0, .slice none 0 0]] → ρ c4 = none →
      unitAt P f_brickyardref13_Stmt 2 [0, 2, 4] [.slice a (w :: args).length cap, .pointer (some ⟨p4, 0, none⟩), .int .i64 (k : Int)] h Q := by
  intro d
  induction d with
  | zero =>
    intro k h μ ρ' p4 c4 hd h1 hk hop O W hc4
    have hk : k = 13 := by omega
    subst hk
    have h0 : opOf w = 0 := by
      have := opOf_le w
      omega
    refine r_brickyardref13_Stmt_2 ?_
    rw [show decide (((13 : Nat) : Int) ≤ 12) = false from rfl]
    simp only [oB_some, bC_true, bC_false, vInt_int, vBool_bool, vStr_string, vPtr_pointer, vSl_slice, vMap_map, vFun_func, vAgg_agg, vTup_tuple, vIfc_nil, vIfc_iface, lC_cons, lN_nil, aP_some, shO_none, shO_some, Option.isNone_none, Option.isNone_some, Bool.not_true, Bool.not_false]
    have hx : (stmtM (w :: args)).ok = false := by
      rw [stmtM_ne (by omega), h0]; rfl
    repeat (first | refine ⟨rfl, ?_⟩ | refine ⟨trivial, ?_⟩ | simp only [oB_some, bC_true, bC_false, vInt_int, vBool_bool, vStr_string, vPtr_pointer, vSl_slice, vMap_map, vFun_func, vAgg_agg, vTup_tuple, vIfc_nil, vIfc_iface, lC_cons, lN_nil, aP_some, shO_none, shO_some, Option.isNone_none, Option.isNone_some, Bool.not_true, Bool.not_false] | refine w_rd (by assumption) (by assumption) 0 (by rfl) (by rfl) ?_ | refine w_rd (by assumption) (by assumption) 1 (by rfl) (by rfl) ?_ | refine w_wrL (by assumption) (by assumption) 0 (by rfl) (Nat.le_of_ble_eq_true (by rfl)) (by rfl) fun h ρz O W => ?_ | refine w_wrL (by assumption) (by assumption) 1 (by rfl) (Nat.le_of_ble_eq_true (by rfl)) (by rfl) fun h ρz O W => ?_ | refine w_wr (by assumption) (by assumption) 0 (by rfl) (Nat.le_of_ble_eq_true (by rfl)) (by rfl) fun h ρz O W => ?_ | refine w_wr (by assumption) (by assumption) 1 (by rfl) (Nat.le_of_ble_eq_true (by rfl)) (by rfl) fun h ρz O W => ?_)
    exact hq.no hx _ _ _ _ _ _ _ _ (by assumption) (Pcs.fra0 (by assumption) fun c hc => by
      simp at hc; rw [hc]; exact hc4)
  | succ d ih =>
    intro k h μ ρ' p4 c4 hd h1 hk hop O W hc4
    have F : Fra [] ρ ρ' := W.fra0 fun c hc => by
      simp at hc; rw [hc]; exact hc4
    refine r_brickyardref13_Stmt_2 ?_
    rw [show decide ((k : Int) ≤ 12) = true from decide_eq_true (by omega)]
    simp only [oB_some, bC_true, bC_false, vInt_int, vBool_bool, vStr_string, vPtr_pointer, vSl_slice, vMap_map, vFun_func, vAgg_agg, vTup_tuple, vIfc_nil, vIfc_iface, lC_cons, lN_nil, aP_some, shO_none, shO_some, Option.isNone_none, Option.isNone_some, Bool.not_true, Bool.not_false]
    rw [show decide ((((w :: args).length : Nat) : Int) > 0) = true from decide_eq_true (by simp only [List.length_cons]; omega)]
    simp only [oB_some, bC_true, bC_false, vInt_int, vBool_bool, vStr_string, vPtr_pointer, vSl_slice, vMap_map, vFun_func, vAgg_agg, vTup_tuple, vIfc_nil, vIfc_iface, lC_cons, lN_nil, aP_some, shO_none, shO_some, Option.isNone_none, Option.isNone_some, Bool.not_true, Bool.not_false]
    refine rWord_ok ?_
    simp only [oB_some, bC_true, bC_false, vInt_int, vBool_bool, vStr_string, vPtr_pointer, vSl_slice, vMap_map, vFun_func, vAgg_agg, vTup_tuple, vIfc_nil, vIfc_iface, lC_cons, lN_nil, aP_some, shO_none, shO_some, Option.isNone_none, Option.isNone_some, Bool.not_true, Bool.not_false]
    refine ((V.keep F).sl O).ix (sz := 1) (j := 0) rfl (by simp) (by omega) (by simp) fun i off ea _ => ?_
    subst ea
    have g1 : h.rd i (off + 0) = some (.string w) := Sl.get (j := 0) ((V.keep F).sl O) rfl
    refine oB_bind g1 ?_
    simp only [oB_some, bC_true, bC_false, vInt_int, vBool_bool, vStr_string, vPtr_pointer, vSl_slice, vMap_map, vFun_func, vAgg_agg, vTup_tuple, vIfc_nil, vIfc_iface, lC_cons, lN_nil, aP_some, shO_none, shO_some, Option.isNone_none, Option.isNone_some, Bool.not_true, Bool.not_false]
    refine oB_bind g1 ?_
    simp only [oB_some, bC_true, bC_false, vInt_int, vBool_bool, vStr_string, vPtr_pointer, vSl_slice, vMap_map, vFun_func, vAgg_agg, vTup_tuple, vIfc_nil, vIfc_iface, lC_cons, lN_nil, aP_some, shO_none, shO_some, Option.isNone_none, Option.isNone_some, Bool.not_true, Bool.not_false]
    refine ⟨by trivial, ?_⟩
    refine bC_iff (fun e => ?_) (fun e => ?_)
    · have e : opOf w ≠ k := fun e2 => bEq_false.1 (nb e) ((word_iff h1 (by omega)).2 e2)
      rw [wrapS (by omega)]
      exact ih (k + 1) (by omega) (by omega) (by omega) (by omega) O W hc4
    have e : opOf w = k := (word_iff h1 (by omega)).1 (bEq_iff.1 (nb' e))
    refine w_copy O W rfl rfl rfl fun h2 μ2 ρ2 c2 O2 W2 hc2 => ?_
    have fr : ∀ c, c ∈ [c2, c4] → ρ c = none := fun c hc => by
      simp at hc; rcases hc with rfl | rfl <;> assumption
    refine bC_iff (fun e2 => ?_) (fun e2 => ?_)
    · have e10 : opOf w = 10 := by have := eqI e2; omega
      have hk10 : k = 10 := by omega
      subst hk10
      refine bC_iff (fun e3 => ?_) (fun e3 => ?_)
      · have hx : (stmtM (w :: args)).ok = false := by
          rw [stmtM_bad e10 (by simp at e3; omega)]
        repeat (first | refine ⟨rfl, ?_⟩ | refine ⟨trivial, ?_⟩ | simp only [oB_some, bC_true, bC_false, vInt_int, vBool_bool, vStr_string, vPtr_pointer, vSl_slice, vMap_map, vFun_func, vAgg_agg, vTup_tuple, vIfc_nil, vIfc_iface, lC_cons, lN_nil, aP_some, shO_none, shO_some, Option.isNone_none, Option.isNone_some, Bool.not_true, Bool.not_false] | refine w_rd (by assumption) (by assumption) 0 (by rfl) (by rfl) ?_ | refine w_rd (by assumption) (by assumption) 1 (by rfl) (by rfl) ?_ | refine w_wrL (by assumption) (by assumption) 0 (by rfl) (Nat.le_of_ble_eq_true (by rfl)) (by rfl) fun h ρz O W => ?_ | refine w_wrL (by assumption) (by assumption) 1 (by rfl) (Nat.le_of_ble_eq_true (by rfl)) (by rfl) fun h ρz O W => ?_ | refine w_wr (by assumption) (by assumption) 0 (by rfl) (Nat.le_of_ble_eq_true (by rfl)) (by rfl) fun h ρz O W => ?_ | refine w_wr (by assumption) (by assumption) 1 (by rfl) (Nat.le_of_ble_eq_true (by rfl)) (by rfl) fun h ρz O W => ?_)
        exact hq.no hx _ _ _ _ _ _ _ _ (by assumption) (Pcs.fra0 (by assumption) fr)
      · obtain ⟨s, rfl⟩ : ∃ s, args = [s] := by
          match args, e3 with
          | [], e3 => simp at e3
          | [s], _ => exact ⟨s, rfl⟩
          | _ :: _ :: _, e3 => simp at e3; omega
        have hx := stmtM_one (s := s) e10
        refine wd_at (j := 1) (x := [w, s]) O2 (V.keep (W2.fra0 fr)) rfl rfl (by simp) ?_
        refine rNumber_ok O2 fun h3 μ3 ρ3 O3 F3 => ?_
        have W := W2.keep0 F3
        repeat (first | refine ⟨rfl, ?_⟩ | refine ⟨trivial, ?_⟩ | simp only [oB_some, bC_true, bC_false, vInt_int, vBool_bool, vStr_string, vPtr_pointer, vSl_slice, vMap_map, vFun_func, vAgg_agg, vTup_tuple, vIfc_nil, vIfc_iface, lC_cons, lN_nil, aP_some, shO_none, shO_some, Option.isNone_none, Option.isNone_some, Bool.not_true, Bool.not_false] | refine w_rd (by assumption) (by assumption) 0 (by rfl) (by rfl) ?_ | refine w_rd (by assumption) (by assumption) 1 (by rfl) (by rfl) ?_ | refine w_wrL (by assumption) (by assumption) 0 (by rfl) (Nat.le_of_ble_eq_true (by rfl)) (by rfl) fun h ρz O W => ?_ | refine w_wrL (by assumption) (by assumption) 1 (by rfl) (Nat.le_of_ble_eq_true (by rfl)) (by rfl) fun h ρz O W => ?_ | refine w_wr (by assumption) (by assumption) 0 (by rfl) (Nat.le_of_ble_eq_true (by rfl)) (by rfl) fun h ρz O W => ?_ | refine w_wr (by assumption) (by assumption) 1 (by rfl) (Nat.le_of_ble_eq_true (by rfl)) (by rfl) fun h ρz O W => ?_)
        by_cases hn : numM s ≥ 0
        · have := (hq.yes (by rw [hx]; exact decide_eq_true hn)).none (by rw [hx]) (by assumption) (Pcs.fra0 (by assumption) fr)
          rw [hx] at this
          exact this
        · have := hq.no (by rw [hx]; exact decide_eq_false hn) 10 none 0 0 (numM s) _ _ _ (by assumption) (Pcs.fra0 (by assumption) fr)
          show Q (.tuple ⟨[_, .bool (decide (numM s ≥ 0))]⟩) _
          rw [show decide (numM s ≥ 0) = false from decide_eq_false hn]
          exact this
    · have e10 : opOf w ≠ 10 := by have := neI e2; omega
      have hx := stmtM_ne (args := args) e10
      have hpos : decide (0 < opOf w) = true := decide_eq_true (by omega)
      rw [hpos, Bool.true_and] at hx
      refine w_rd O2 W2 0 (j := 1) rfl rfl ?_
      simp only [oB_some, bC_true, bC_false, vInt_int, vBool_bool, vStr_string, vPtr_pointer, vSl_slice, vMap_map, vFun_func, vAgg_agg, vTup_tuple, vIfc_nil, vIfc_iface, lC_cons, lN_nil, aP_some, shO_none, shO_some, Option.isNone_none, Option.isNone_some, Bool.not_true, Bool.not_false]
      rw [show natBnd 1 (w :: args).length = some 1 from natBnd_eq (j := 1) (by simp)]
      simp only [oB_some, bC_true, bC_false, vInt_int, vBool_bool, vStr_string, vPtr_pointer, vSl_slice, vMap_map, vFun_func, vAgg_agg, vTup_tuple, vIfc_nil, vIfc_iface, lC_cons, lN_nil, aP_some, shO_none, shO_some, Option.isNone_none, Option.isNone_some, Bool.not_true, Bool.not_false]
      rw [Nat.ble_eq_true_of_le hc]
      simp only [oB_some, bC_true, bC_false, vInt_int, vBool_bool, vStr_string, vPtr_pointer, vSl_slice, vMap_map, vFun_func, vAgg_agg, vTup_tuple, vIfc_nil, vIfc_iface, lC_cons, lN_nil, aP_some, shO_none, shO_some, Option.isNone_none, Option.isNone_some, Bool.not_true, Bool.not_false]
      obtain ⟨ρ3, c3, O3, W3, hc3⟩ := w_nil O2 W2 1
      have F3 : Fra [] ρ ρ3 := W3.fra0 fun c hc => by
        simp at hc; rcases hc with rfl | rfl | rfl <;> assumption
      obtain ⟨a', ea, V'⟩ := (V.keep F3).drop (1 * 1)
      simp only [shO, Option.some.injEq] at ea
      subst ea
      have V' : Vw ρ3 [] (some ⟨i, off + 1 * 1, none⟩) (strs args) := V'
      have hlen : (w :: args).length - 1 = args.length := by simp
      rw [hlen]
      refine w_app (P := P) O3 W3 0 (l := []) (n := 0) ti_ty_sl_string ti_ty_string (by decide) rfl rfl (V'.sl O3) (m := args.length) (by simp) allOne_strs (by omega) (by omega) fun oa oc h4 μ4 ρ4 O4 W4 => ?_
      rw [Nat.zero_add]
      have W : Pcs ρ ρ4 [c3, c2, c4] _ := W4
      repeat (first | refine ⟨rfl, ?_⟩ | refine ⟨trivial, ?_⟩ | simp only [oB_some, bC_true, bC_false, vInt_int, vBool_bool, vStr_string, vPtr_pointer, vSl_slice, vMap_map, vFun_func, vAgg_agg, vTup_tuple, vIfc_nil, vIfc_iface, lC_cons, lN_nil, aP_some, shO_none, shO_some, Option.isNone_none, Option.isNone_some, Bool.not_true, Bool.not_false] | refine w_rd (by assumption) (by assumption) 0 (by rfl) (by rfl) ?_ | refine w_rd (by assumption) (by assumption) 1 (by rfl) (by rfl) ?_ | refine w_rd (by assumption) (by assumption) 2 (by rfl) (by rfl) ?_ | refine w_wrL (by assumption) (by assumption) 0 (by rfl) (Nat.le_of_ble_eq_true (by rfl)) (by rfl) fun h ρz O W => ?_ | refine w_wrL (by assumption) (by assumption) 1 (by rfl) (Nat.le_of_ble_eq_true (by rfl)) (by rfl) fun h ρz O W => ?_ | refine w_wrL (by assumption) (by assumption) 2 (by rfl) (Nat.le_of_ble_eq_true (by rfl)) (by rfl) fun h ρz O W => ?_ | refine w_wr (by assumption) (by assumption) 0 (by rfl) (Nat.le_of_ble_eq_true (by rfl)) (by rfl) fun h ρz O W => ?_ | refine w_wr (by assumption) (by assumption) 1 (by rfl) (Nat.le_of_ble_eq_true (by rfl)) (by rfl) fun h ρz O W => ?_ | refine w_wr (by assumption) (by assumption) 2 (by rfl) (Nat.le_of_ble_eq_true (by rfl)) (by rfl) fun h ρz O W => ?_)
      refine rArgs_ok ?_
      simp only [oB_some, bC_true, bC_false, vInt_int, vBool_bool, vStr_string, vPtr_pointer, vSl_slice, vMap_map, vFun_func, vAgg_agg, vTup_tuple, vIfc_nil, vIfc_iface, lC_cons, lN_nil, aP_some, shO_none, shO_some, Option.isNone_none, Option.isNone_some, Bool.not_true, Bool.not_false]
      have done : ∀ {h' : AW} {μ' : Paint} {ρ' : Store} {b : Bool} {r2 r3 : Res}, b = fitsM (opOf w) args.length → Own h' μ' ρ' → Pcs ρ ρ' [c3, c2, c4] [.sl oa oc 1 (strs args), r2, r3] → Q (.tuple ⟨[.agg ⟨[.int .i64 (opOf w : Int), .slice oa args.length oc, .int .i64 0, .slice none 0 0]⟩, .bool b]⟩) h' := by
        intro h' μ' ρ' b r2 r3 hb O' W'
        cases hf : fitsM (opOf w) args.length with
        | true =>
          have := hq.yes (by rw [hx]; exact hf) h' μ' ρ' c3 oa oc O' (by rw [hx]; exact (W'.tail2 hc2).tail2 hc4) hc3
          rw [hx] at this
          rw [hb]; exact this
        | false =>
          have := hq.no (by rw [hx]; exact hf) (opOf w) oa args.length oc 0 h' μ' ρ' O' (W'.fra0 fun c hc => by
            simp at hc; rcases hc with rfl | rfl | rfl <;> assumption)
          rw [hb, hf]; exact this
      rw [e] at done
      refine bC_iff (fun e4 => ?_) (fun e4 => ?_)
      · repeat (first | refine ⟨rfl, ?_⟩ | refine ⟨trivial, ?_⟩ | simp only [oB_some, bC_true, bC_false, vInt_int, vBool_bool, vStr_string, vPtr_pointer, vSl_slice, vMap_map, vFun_func, vAgg_agg, vTup_tuple, vIfc_nil, vIfc_iface, lC_cons, lN_nil, aP_some, shO_none, shO_some, Option.isNone_none, Option.isNone_some, Bool.not_true, Bool.not_false] | refine w_rd (by assumption) (by assumption) 0 (by rfl) (by rfl) ?_ | refine w_rd (by assumption) (by assumption) 1 (by rfl) (by rfl) ?_ | refine w_rd (by assumption) (by assumption) 2 (by rfl) (by rfl) ?_ | refine w_wrL (by assumption) (by assumption) 0 (by rfl) (Nat.le_of_ble_eq_true (by rfl)) (by rfl) fun h ρz O W => ?_ | refine w_wrL (by assumption) (by assumption) 1 (by rfl) (Nat.le_of_ble_eq_true (by rfl)) (by rfl) fun h ρz O W => ?_ | refine w_wrL (by assumption) (by assumption) 2 (by rfl) (Nat.le_of_ble_eq_true (by rfl)) (by rfl) fun h ρz O W => ?_ | refine w_wr (by assumption) (by assumption) 0 (by rfl) (Nat.le_of_ble_eq_true (by rfl)) (by rfl) fun h ρz O W => ?_ | refine w_wr (by assumption) (by assumption) 1 (by rfl) (Nat.le_of_ble_eq_true (by rfl)) (by rfl) fun h ρz O W => ?_ | refine w_wr (by assumption) (by assumption) 2 (by rfl) (Nat.le_of_ble_eq_true (by rfl)) (by rfl) fun h ρz O W => ?_)
        refine done ?_ (by assumption) (by assumption)
        unfold fitsM
        have e4 := of_decide_eq_true e4
        simp [e4]
      · refine rArgs_ok ?_
        repeat (first | refine ⟨rfl, ?_⟩ | refine ⟨trivial, ?_⟩ | simp only [oB_some, bC_true, bC_false, vInt_int, vBool_bool, vStr_string, vPtr_pointer, vSl_slice, vMap_map, vFun_func, vAgg_agg, vTup_tuple, vIfc_nil, vIfc_iface, lC_cons, lN_nil, aP_some, shO_none, shO_some, Option.isNone_none, Option.isNone_some, Bool.not_true, Bool.not_false] | refine w_rd (by assumption) (by assumption) 0 (by rfl) (by rfl) ?_ | refine w_rd (by assumption) (by assumption) 1 (by rfl) (by rfl) ?_ | refine w_rd (by assumption) (by assumption) 2 (by rfl) (by rfl) ?_ | refine w_wrL (by assumption) (by assumption) 0 (by rfl) (Nat.le_of_ble_eq_true (by rfl)) (by rfl) fun h ρz O W => ?_ | refine w_wrL (by assumption) (by assumption) 1 (by rfl) (Nat.le_of_ble_eq_true (by rfl)) (by rfl) fun h ρz O W => ?_ | refine w_wrL (by assumption) (by assumption) 2 (by rfl) (Nat.le_of_ble_eq_true (by rfl)) (by rfl) fun h ρz O W => ?_ | refine w_wr (by assumption) (by assumption) 0 (by rfl) (Nat.le_of_ble_eq_true (by rfl)) (by rfl) fun h ρz O W => ?_ | refine w_wr (by assumption) (by assumption) 1 (by rfl) (Nat.le_of_ble_eq_true (by rfl)) (by rfl) fun h ρz O W => ?_ | refine w_wr (by assumption) (by assumption) 2 (by rfl) (Nat.le_of_ble_eq_true (by rfl)) (by rfl) fun h ρz O W => ?_)
        refine done ?_ (by assumption) (by assumption)
        unfold fitsM
        rw [e4, Bool.false_or, Bool.eq_iff_iff]
        simp
theorem rstmt_ok (O : Own h μ ρ) {x : List Str} {a : Option Addr} {cap : Nat} (V : Vw ρ [] a (strs x)) (hc : x.length ≤ cap) (hl : x.length ≤ 1000000) (hq : NewY Q ρ (stmtM x)) :
    EvQ P f_brickyardref13_Stmt [.slice a x.length cap] h Q := by
  refine r_brickyardref13_Stmt ?_
  obtain ⟨μ1, ρ1, c1, O1, W1, hc1⟩ := w_new O p00 [.int .i64 0, .slice none 0 0, .int .i64 0, .slice none 0 0]
  cases x with
  | nil =>
    refine r_brickyardref13_Stmt_2 ?_
    rw [show decide ((1 : Int) ≤ 12) = true from rfl]
    simp only [oB_some, bC_true, bC_false, vInt_int, vBool_bool, vStr_string, vPtr_pointer, vSl_slice, vMap_map, vFun_func, vAgg_agg, vTup_tuple, vIfc_nil, vIfc_iface, lC_cons, lN_nil, aP_some, shO_none, shO_some, Option.isNone_none, Option.isNone_some, Bool.not_true, Bool.not_false]
    rw [show decide (((([] : List Str).length : Nat) : Int) > 0) = false from rfl]
    repeat (first | refine ⟨rfl, ?_⟩ | refine ⟨trivial, ?_⟩ | simp only [oB_some, bC_true, bC_false, vInt_int, vBool_bool, vStr_string, vPtr_pointer, vSl_slice, vMap_map, vFun_func, vAgg_agg, vTup_tuple, vIfc_nil, vIfc_iface, lC_cons, lN_nil, aP_some, shO_none, shO_some, Option.isNone_none, Option.isNone_some, Bool.not_true, Bool.not_false] | refine w_rd (by assumption) (by assumption) 0 (by rfl) (by rfl) ?_ | refine w_rd (by assumption) (by assumption) 1 (by rfl) (by rfl) ?_ | refine w_wrL (by assumption) (by assumption) 0 (by rfl) (Nat.le_of_ble_eq_true (by rfl)) (by rfl) fun h ρz O W => ?_ | refine w_wrL (by assumption) (by assumption) 1 (by rfl) (Nat.le_of_ble_eq_true (by rfl)) (by rfl) fun h ρz O W => ?_ | refine w_wr (by assumption) (by assumption) 0 (by rfl) (Nat.le_of_ble_eq_true (by rfl)) (by rfl) fun h ρz O W => ?_ | refine w_wr (by assumption) (by assumption) 1 (by rfl) (Nat.le_of_ble_eq_true (by rfl)) (by rfl) fun h ρz O W => ?_)
    exact hq.no rfl _ _ _ _ _ _ _ _ (by assumption) (Pcs.fra0 (by assumption) fun c hc => by
      simp at hc; rw [hc]; exact hc1)
  | cons w args =>
    exact rstmt_loop V hc (by simp at hl; omega) hq _ 1 rfl (by omega) (by omega) (by omega) O1 W1 hc1

/-! The first error. -/
theorem chk_cons {l : Line} {r : List Line} {i o m : Nat} : chk (l :: r) i o m = if l = [wEnd] then (if o = 0 then (131, (i : Int)) else chk r (i + 1) (o - 1) m) else if (stmtM l).ok = false then (130, (i : Int)) else if m + 1 > 256 then (3, (i : Int))
    else if opensM (stmtM l).op = true then (if o = 8 then (132, (i : Int)) else chk r (i + 1) (o + 1) (m + 1)) else chk r (i + 1) o (m + 1) := rfl
theorem rcheck_loop {ps : List Wds} {a : Option Addr} {cap : Nat} (X : Lns ρ ps a) (M : Mild (ps.map Wds.x)) :
    ∀ (d i o m : Nat) {h : AW} {μ : Paint} {ρ' : Store} {p4 c4 : Nat}, ps.length - i = d → i ≤ ps.length → o ≤ i → m ≤ i → Own h μ ρ' → Pcs ρ ρ' [c4] [.var p4 [.int .i64 0, .int .i64 0]] → ρ c4 = none →
      RdQ Q ρ (.agg ⟨[.int .i64 (chk ((ps.map Wds.x).drop i) i o m).1, .int .i64 (chk ((ps.map Wds.x).drop i) i o m).2]⟩) →
      unitAt P f_brickyardref13_Check 3 [0, 2, 3, 4, 5] [.slice a ps.length cap, .pointer (some ⟨p4, 0, none⟩), .int .i64 (o : Int), .int .i64 (m : Int), .int .i64 (i : Int)] h Q := by
  have hps : ps.length ≤ 262144 := by have := M.len; simpa using this
  intro d
  induction d with
  | zero =>
    intro i o m h μ ρ' p4 c4 hd hi ho hm O W hc4 hq
    have : i = ps.length := by omega
    subst this
    rw [List.drop_eq_nil_of_le (by simp), chk] at hq
    refine r_brickyardref13_Check_3 ?_
    rw [geI (by omega)]
    simp only [oB_some, bC_true, bC_false, vInt_int, vBool_bool, vStr_string, vPtr_pointer, vSl_slice, vMap_map, vFun_func, vAgg_agg, vTup_tuple, vIfc_nil, vIfc_iface, lC_cons, lN_nil, aP_some, shO_none, shO_some, Option.isNone_none, Option.isNone_some, Bool.not_true, Bool.not_false]
    refine bC_iff (fun e => ?_) (fun e => ?_)
    · have e : o > 0 := by have := of_decide_eq_true e; omega
      rw [if_pos e] at hq
      repeat (first | refine ⟨rfl, ?_⟩ | refine ⟨trivial, ?_⟩ | simp only [oB_some, bC_true, bC_false, vInt_int, vBool_bool, vStr_string, vPtr_pointer, vSl_slice, vMap_map, vFun_func, vAgg_agg, vTup_tuple, vIfc_nil, vIfc_iface, lC_cons, lN_nil, aP_some, shO_none, shO_some, Option.isNone_none, Option.isNone_some, Bool.not_true, Bool.not_false] | refine w_rd (by assumption) (by assumption) 0 (by rfl) (by rfl) ?_ | refine w_rd (by assumption) (by assumption) 1 (by rfl) (by rfl) ?_ | refine w_wrL (by assumption) (by assumption) 0 (by rfl) (Nat.le_of_ble_eq_true (by rfl)) (by rfl) fun h ρz O W => ?_ | refine w_wrL (by assumption) (by assumption) 1 (by rfl) (Nat.le_of_ble_eq_true (by rfl)) (by rfl) fun h ρz O W => ?_ | refine w_wr (by assumption) (by assumption) 0 (by rfl) (Nat.le_of_ble_eq_true (by rfl)) (by rfl) fun h ρz O W => ?_ | refine w_wr (by assumption) (by assumption) 1 (by rfl) (Nat.le_of_ble_eq_true (by rfl)) (by rfl) fun h ρz O W => ?_)
      exact hq _ _ _ (by assumption) (Pcs.fra0 (by assumption) fun c hc => by
        simp at hc; rw [hc]; exact hc4)
    · have e : ¬ o > 0 := by have := of_decide_eq_false e; omega
      rw [if_neg e] at hq
      repeat (first | refine ⟨rfl, ?_⟩ | refine ⟨trivial, ?_⟩ | simp only [oB_some, bC_true, bC_false, vInt_int, vBool_bool, vStr_string, vPtr_pointer, vSl_slice, vMap_map, vFun_func, vAgg_agg, vTup_tuple, vIfc_nil, vIfc_iface, lC_cons, lN_nil, aP_some, shO_none, shO_some, Option.isNone_none, Option.isNone_some, Bool.not_true, Bool.not_false] | refine w_rd (by assumption) (by assumption) 0 (by rfl) (by rfl) ?_ | refine w_rd (by assumption) (by assumption) 1 (by rfl) (by rfl) ?_ | refine w_wrL (by assumption) (by assumption) 0 (by rfl) (Nat.le_of_ble_eq_true (by rfl)) (by rfl) fun h ρz O W => ?_ | refine w_wrL (by assumption) (by assumption) 1 (by rfl) (Nat.le_of_ble_eq_true (by rfl)) (by rfl) fun h ρz O W => ?_ | refine w_wr (by assumption) (by assumption) 0 (by rfl) (Nat.le_of_ble_eq_true (by rfl)) (by rfl) fun h ρz O W => ?_ | refine w_wr (by assumption) (by assumption) 1 (by rfl) (Nat.le_of_ble_eq_true (by rfl)) (by rfl) fun h ρz O W => ?_)
      exact hq _ _ _ (by assumption) (Pcs.fra0 (by assumption) fun c hc => by
        simp at hc; rw [hc]; exact hc4)
  | succ d ih =>
    intro i o m h μ ρ' p4 c4 hd hi ho hm O W hc4 hq
    have hlt : i < ps.length := by omega
    have F : Fra [] ρ ρ' := W.fra0 fun c hc => by
      simp at hc; rw [hc]; exact hc4
    have hcap := X.caps _ (List.getElem_mem hlt)
    have hlen : (ps[i]).x.length ≤ 262144 := M.wds _ (List.mem_map_of_mem (List.getElem_mem hlt))
    rw [List.drop_eq_getElem_cons (by simpa using hlt), List.getElem_map, chk_cons] at hq
    refine r_brickyardref13_Check_3 ?_
    rw [ltI hlt]
    simp only [oB_some, bC_true, bC_false, vInt_int, vBool_bool, vStr_string, vPtr_pointer, vSl_slice, vMap_map, vFun_func, vAgg_agg, vTup_tuple, vIfc_nil, vIfc_iface, lC_cons, lN_nil, aP_some, shO_none, shO_some, Option.isNone_none, Option.isNone_some, Bool.not_true, Bool.not_false]
    refine ln_at O (X.keep F) rfl rfl hlt fun V => ?_
    have one : ∀ c, c ∈ [c4] → ρ c = none := fun c hc => by simp at hc; rw [hc]; exact hc4
    have tail : (ps[i]).x ≠ [wEnd] →
        aP a fun m32 m33 => oB (natIdx (i : Int) ps.length) fun m34 => oB (AW.rd h m32 (m33 + m34 * 1)) fun v35 => vSl v35 fun p36 m37 m38 => EvQ P f_brickyardref13_Stmt [Value.slice p36 m37 m38] h
        fun v39 h40 => vTup v39 fun l41 => lC l41 fun v42 l43 => vAgg v42 fun l44 => lC l44 fun v45 l46 => vInt IntKind.i64 v45 fun n47 => lC l46 fun v48 l49 => vSl v48 fun p50 m51 m52 => lC
        l49 fun v53 l54 => vInt IntKind.i64 v53 fun n55 => lC l54 fun v56 l57 => vSl v56 fun p58 m59 m60 => lN l57 (lC l43 fun v61 l62 => vBool v61 fun b63 => lN l62 (oB (AW.wrL (AW.addVar
        h40 [Value.int IntKind.i64 0, Value.slice none 0 0, Value.int IntKind.i64 0, Value.slice none 0 0]) (AW.next h40) 0 [Value.int IntKind.i64 n47, Value.slice p50 m51 m52, Value.int
        IntKind.i64 n55, Value.slice p58 m59 m60]) fun h64 => bC (!b63) (oB (AW.wrL h64 p4 0 [Value.int IntKind.i64 130, Value.int IntKind.i64 (i : Int)]) fun h65 => oB (AW.rd h65 p4 0) fun
        v66 => vInt IntKind.i64 v66 fun n67 => oB (AW.rd h65 p4 1) fun v68 => vInt IntKind.i64 v68 fun n69 => Q (Value.agg (Array.mk [Value.int IntKind.i64 n67, Value.int IntKind.i64 n69]))
        h65) (bC (decide (IntKind.wrap IntKind.i64 ((m : Int) + 1) > 256)) (oB (AW.wrL h64 p4 0 [Value.int IntKind.i64 3, Value.int IntKind.i64 (i : Int)]) fun h70 => oB (AW.rd h70 p4 0) fun
        v71 => vInt IntKind.i64 v71 fun n72 => oB (AW.rd h70 p4 1) fun v73 => vInt IntKind.i64 v73 fun n74 => Q (Value.agg (Array.mk [Value.int IntKind.i64 n72, Value.int IntKind.i64 n74]))
        h70) (oB (AW.rd h64 (AW.next h40) 0) fun v75 => vInt IntKind.i64 v75 fun n76 => EvQ P f_brickyardref13_Opens [Value.int IntKind.i64 n76] h64 fun v77 h78 => vBool v77 fun b79 => bC
        b79 (bC ((o : Int) == 8) (oB (AW.wrL h78 p4 0 [Value.int IntKind.i64 132, Value.int IntKind.i64 (i : Int)]) fun h80 => oB (AW.rd h80 p4 0) fun v81 => vInt IntKind.i64 v81 fun n82 =>
        oB (AW.rd h80 p4 1) fun v83 => vInt IntKind.i64 v83 fun n84 => Q (Value.agg (Array.mk [Value.int IntKind.i64 n82, Value.int IntKind.i64 n84])) h80) (unitAt P f_brickyardref13_Check 3
        [0, 2, 3, 4, 5] [Value.slice a ps.length cap, Value.pointer (some (Addr.mk p4 0 none)), Value.int IntKind.i64 (IntKind.wrap IntKind.i64 ((o : Int) + 1)), Value.int IntKind.i64
        (IntKind.wrap IntKind.i64 ((m : Int) + 1)), Value.int IntKind.i64 (IntKind.wrap IntKind.i64 ((i : Int) + 1))] h78 Q)) (unitAt P f_brickyardref13_Check 3 [0, 2, 3, 4, 5] [Value.slice
        a ps.length cap, Value.pointer (some (Addr.mk p4 0 none)), Value.int IntKind.i64 (o : Int), Value.int IntKind.i64 (IntKind.wrap IntKind.i64 ((m : Int) + 1)), Value.int IntKind.i64
        (IntKind.wrap IntKind.i64 ((i : Int) + 1))] h78 Q))))) := by
      intro hne
      rw [if_neg hne] at hq
      refine ln_at O (X.keep F) rfl rfl hlt fun V => ?_
      refine rstmt_ok O V hcap (by omega) ⟨fun hx h2 μ2 ρ2 co oa oc O2 W2 hco => ?_, fun hx op oa an oc kk h2 μ2 ρ2 O2 F2 => ?_⟩
      · rw [hx]
        rw [if_neg (by simp [hx])] at hq
        simp only [oB_some, bC_true, bC_false, vInt_int, vBool_bool, vStr_string, vPtr_pointer, vSl_slice, vMap_map, vFun_func, vAgg_agg, vTup_tuple, vIfc_nil, vIfc_iface, lC_cons, lN_nil, aP_some, shO_none, shO_some, Option.isNone_none, Option.isNone_some, Bool.not_true, Bool.not_false]
        have F2 : Fra [] ρ' ρ2 := W2.fra0 fun c hc => by simp at hc; rw [hc]; exact hco
        refine w_copy O2 (W.keep0 F2) rfl rfl rfl fun h3 μ3 ρ3 c3 O3 W3 hc3 => ?_
        have two : ∀ c, c ∈ [c3, c4] → ρ c = none := fun c hc => by simp at hc; rcases hc with rfl | rfl <;> assumption
        rw [wrapS (j := m) (by omega)]
        refine bC_iff (fun e => ?_) (fun e => ?_)
        · rw [if_pos (by have := of_decide_eq_true e; omega)] at hq
          repeat (first | refine ⟨rfl, ?_⟩ | refine ⟨trivial, ?_⟩ | simp only [oB_some, bC_true, bC_false, vInt_int, vBool_bool, vStr_string, vPtr_pointer, vSl_slice, vMap_map, vFun_func, vAgg_agg, vTup_tuple, vIfc_nil, vIfc_iface, lC_cons, lN_nil, aP_some, shO_none, shO_some, Option.isNone_none, Option.isNone_some, Bool.not_true, Bool.not_false] | refine w_rd (by assumption) (by assumption) 0 (by rfl) (by rfl) ?_ | refine w_rd (by assumption) (by assumption) 1 (by rfl) (by rfl) ?_ | refine w_wrL (by assumption) (by assumption) 0 (by rfl) (Nat.le_of_ble_eq_true (by rfl)) (by rfl) fun h ρz O W => ?_ | refine w_wrL (by assumption) (by assumption) 1 (by rfl) (Nat.le_of_ble_eq_true (by rfl)) (by rfl) fun h ρz O W => ?_ | refine w_wr (by assumption) (by assumption) 0 (by rfl) (Nat.le_of_ble_eq_true (by rfl)) (by rfl) fun h ρz O W => ?_ | refine w_wr (by assumption) (by assumption) 1 (by rfl) (Nat.le_of_ble_eq_true (by rfl)) (by rfl) fun h ρz O W => ?_)
          exact hq _ _ _ (by assumption) (Pcs.fra0 (by assumption) two)
        rw [if_neg (by have := of_decide_eq_false e; omega)] at hq
        refine w_rd O3 W3 0 (j := 0) rfl rfl ?_
        simp only [oB_some, bC_true, bC_false, vInt_int, vBool_bool, vStr_string, vPtr_pointer, vSl_slice, vMap_map, vFun_func, vAgg_agg, vTup_tuple, vIfc_nil, vIfc_iface, lC_cons, lN_nil, aP_some, shO_none, shO_some, Option.isNone_none, Option.isNone_some, Bool.not_true, Bool.not_false]
        refine rOpens_ok ?_
        simp only [oB_some, bC_true, bC_false, vInt_int, vBool_bool, vStr_string, vPtr_pointer, vSl_slice, vMap_map, vFun_func, vAgg_agg, vTup_tuple, vIfc_nil, vIfc_iface, lC_cons, lN_nil, aP_some, shO_none, shO_some, Option.isNone_none, Option.isNone_some, Bool.not_true, Bool.not_false]
        rw [wrapS (j := i) (by omega)]
        refine bC_iff (fun e => ?_) (fun e => ?_)
        · rw [if_pos e] at hq
          refine bC_iff (fun e2 => ?_) (fun e2 => ?_)
          · rw [if_pos (by have := eqI e2; omega)] at hq
            repeat (first | refine ⟨rfl, ?_⟩ | refine ⟨trivial, ?_⟩ | simp only [oB_some, bC_true, bC_false, vInt_int, vBool_bool, vStr_string, vPtr_pointer, vSl_slice, vMap_map, vFun_func, vAgg_agg, vTup_tuple, vIfc_nil, vIfc_iface, lC_cons, lN_nil, aP_some, shO_none, shO_some, Option.isNone_none, Option.isNone_some, Bool.not_true, Bool.not_false] | refine w_rd (by assumption) (by assumption) 0 (by rfl) (by rfl) ?_ | refine w_rd (by assumption) (by assumption) 1 (by rfl) (by rfl) ?_ | refine w_wrL (by assumption) (by assumption) 0 (by rfl) (Nat.le_of_ble_eq_true (by rfl)) (by rfl) fun h ρz O W => ?_ | refine w_wrL (by assumption) (by assumption) 1 (by rfl) (Nat.le_of_ble_eq_true (by rfl)) (by rfl) fun h ρz O W => ?_ | refine w_wr (by assumption) (by assumption) 0 (by rfl) (Nat.le_of_ble_eq_true (by rfl)) (by rfl) fun h ρz O W => ?_ | refine w_wr (by assumption) (by assumption) 1 (by rfl) (Nat.le_of_ble_eq_true (by rfl)) (by rfl) fun h ρz O W => ?_)
            exact hq _ _ _ (by assumption) (Pcs.fra0 (by assumption) two)
          · rw [if_neg (by have := neI e2; omega)] at hq
            rw [wrapS (j := o) (by omega)]
            exact ih (i + 1) (o + 1) (m + 1) (by omega) (by omega) (by omega) (by omega) O3 (W3.tail hc3) hc4 hq
        · rw [if_neg (by simp [e])] at hq
          exact ih (i + 1) o (m + 1) (by omega) (by omega) (by omega) (by omega) O3 (W3.tail hc3) hc4 hq
      · rw [if_pos hx] at hq
        simp only [oB_some, bC_true, bC_false, vInt_int, vBool_bool, vStr_string, vPtr_pointer, vSl_slice, vMap_map, vFun_func, vAgg_agg, vTup_tuple, vIfc_nil, vIfc_iface, lC_cons, lN_nil, aP_some, shO_none, shO_some, Option.isNone_none, Option.isNone_some, Bool.not_true, Bool.not_false]
        refine w_copy O2 (W.keep0 F2) rfl rfl rfl fun h3 μ3 ρ3 c3 O3 W3 hc3 => ?_
        have two : ∀ c, c ∈ [c3, c4] → ρ c = none := fun c hc => by simp at hc; rcases hc with rfl | rfl <;> assumption
        repeat (first | refine ⟨rfl, ?_⟩ | refine ⟨trivial, ?_⟩ | simp only [oB_some, bC_true, bC_false, vInt_int, vBool_bool, vStr_string, vPtr_pointer, vSl_slice, vMap_map, vFun_func, vAgg_agg, vTup_tuple, vIfc_nil, vIfc_iface, lC_cons, lN_nil, aP_some, shO_none, shO_some, Option.isNone_none, Option.isNone_some, Bool.not_true, Bool.not_false] | refine w_rd (by assumption) (by assumption) 0 (by rfl) (by rfl) ?_ | refine w_rd (by assumption) (by assumption) 1 (by rfl) (by rfl) ?_ | refine w_wrL (by assumption) (by assumption) 0 (by rfl) (Nat.le_of_ble_eq_true (by rfl)) (by rfl) fun h ρz O W => ?_ | refine w_wrL (by assumption) (by assumption) 1 (by rfl) (Nat.le_of_ble_eq_true (by rfl)) (by rfl) fun h ρz O W => ?_ | refine w_wr (by assumption) (by assumption) 0 (by rfl) (Nat.le_of_ble_eq_true (by rfl)) (by rfl) fun h ρz O W => ?_ | refine w_wr (by assumption) (by assumption) 1 (by rfl) (Nat.le_of_ble_eq_true (by rfl)) (by rfl) fun h ρz O W => ?_)
        exact hq _ _ _ (by assumption) (Pcs.fra0 (by assumption) two)
    refine bC_iff (fun e1 => ?_) (fun e1 => tail fun x => by rw [x] at e1; simp at e1)
    refine ln_at O (X.keep F) rfl rfl hlt fun V => ?_
    refine wd_at (j := 0) O V rfl rfl (by have := eqI e1; omega) ?_
    refine bC_iff (fun e2 => ?_) (fun e2 => tail fun x => by simp [x] at e2)
    have hend : (ps[i]).x = [wEnd] := by
      have h1 : (ps[i]).x.length = 1 := by have := eqI e1; omega
      obtain ⟨y, hy⟩ := List.length_eq_one_iff.1 h1
      have h2 := bEq_iff.1 e2
      simp only [hy, List.getElem_cons_zero] at h2
      rw [hy, h2]
    rw [if_pos hend] at hq
    refine bC_iff (fun e3 => ?_) (fun e3 => ?_)
    · rw [if_pos (by have := eqI e3; omega)] at hq
      repeat (first | refine ⟨rfl, ?_⟩ | refine ⟨trivial, ?_⟩ | simp only [oB_some, bC_true, bC_false, vInt_int, vBool_bool, vStr_string, vPtr_pointer, vSl_slice, vMap_map, vFun_func, vAgg_agg, vTup_tuple, vIfc_nil, vIfc_iface, lC_cons, lN_nil, aP_some, shO_none, shO_some, Option.isNone_none, Option.isNone_some, Bool.not_true, Bool.not_false] | refine w_rd (by assumption) (by assumption) 0 (by rfl) (by rfl) ?_ | refine w_rd (by assumption) (by assumption) 1 (by rfl) (by rfl) ?_ | refine w_wrL (by assumption) (by assumption) 0 (by rfl) (Nat.le_of_ble_eq_true (by rfl)) (by rfl) fun h ρz O W => ?_ | refine w_wrL (by assumption) (by assumption) 1 (by rfl) (Nat.le_of_ble_eq_true (by rfl)) (by rfl) fun h ρz O W => ?_ | refine w_wr (by assumption) (by assumption) 0 (by rfl) (Nat.le_of_ble_eq_true (by rfl)) (by rfl) fun h ρz O W => ?_ | refine w_wr (by assumption) (by assumption) 1 (by rfl) (Nat.le_of_ble_eq_true (by rfl)) (by rfl) fun h ρz O W => ?_)
      exact hq _ _ _ (by assumption) (Pcs.fra0 (by assumption) one)
    · have e3 : o ≠ 0 := by have := neI e3; omega
      rw [if_neg e3] at hq
      rw [wrapS (j := i) (by omega), show IntKind.wrap .i64 ((o : Int) - 1) = ((o - 1 : Nat) : Int) from by rw [wrap_sm (n := (o : Int) - 1) (by omega) (by omega)]; omega]
      exact ih (i + 1) (o - 1) m (by omega) (by omega) (by omega) (by omega) O W hc4 hq
end Go.Proofs.YtgdkekdedgkglaaDoor
end

section
/- The document's statements up to an end. -/
namespace Go.Proofs.YtgdkekdedgkglaaDoor
open Go.Abs Go.Abs.Fo
set_option maxRecDepth 100000
attribute [local irreducible] unitAt EvQ
variable {h : AW} {μ : Paint} {ρ : Store} {Q : Value → AW → Prop}

/-- A statement joins the others, whatever comes next. -/
theorem app_g (O : Own h μ ρ) {ρ1 : Store} {cx co cm : Nat} {ns : List Nat} {px N : Nat} {op n : Int} {aa ba oa : Option Addr} {an ac bn bc oc : Nat} {cells : List Value} {vs : List (Option Addr × Nat × Nat × List Value)} {rs : List Res}
    {K : Option Addr → Nat → Nat → AW → Prop}
    (W : Pcs ρ1 ρ (cx :: co :: cm :: ns) (.var px [.int .i64 op, .slice aa an ac, .int .i64 n, .slice ba bn bc] :: .sl oa oc 4 cells :: .many vs :: rs)) (hcx : ρ1 cx = none) (hlen : cells.length = N * 4) (hsm : N ≤ 1000000)
    (H : ∀ h' μ' ρ' oa' oc', Own h' μ' ρ' → Pcs ρ1 ρ' (co :: cm :: ns) (.sl oa' oc' 4 (cells ++ [.int .i64 op, .slice aa an ac, .int .i64 n, .slice ba bn bc]) :: .many vs :: rs) → K oa' (N + 1) oc' h') :
    oB (AW.rd h px 0) fun v75 => vInt .i64 v75 fun n76 => oB (AW.rd h px 1) fun v77 => vSl v77 fun p78 m79 m80 => oB (AW.rd h px 2) fun v81 => vInt .i64 v81 fun n82 => oB (AW.rd h px 3) fun v83 => vSl v83 fun p84 m85 m86 =>
      oP (appendB P (AW.addVar h [.int .i64 n76, .slice p78 m79 m80, .int .i64 n82, .slice p84 m85 m86]) ⟨[ty_sl_api_Stmt, ty_sl_api_Stmt]⟩ [.slice oa N oc, .slice (some ⟨AW.next h, 0, none⟩) 1 1]) fun v87 h88 => vSl v87 fun p89 m90 m91 => K p89 m90 m91 h88 := by
  refine w_rd O W 0 rfl rfl ?_
  simp only [oB_some, bC_true, bC_false, vInt_int, vBool_bool, vStr_string, vPtr_pointer, vSl_slice, vMap_map, vFun_func, vAgg_agg, vTup_tuple, vIfc_nil, vIfc_iface, lC_cons, lN_nil, aP_some, shO_none, shO_some, Option.isNone_none, Option.isNone_some, Bool.not_true, Bool.not_false]
  refine w_rd O W 0 rfl rfl ?_
  simp only [oB_some, bC_true, bC_false, vInt_int, vBool_bool, vStr_string, vPtr_pointer, vSl_slice, vMap_map, vFun_func, vAgg_agg, vTup_tuple, vIfc_nil, vIfc_iface, lC_cons, lN_nil, aP_some, shO_none, shO_some, Option.isNone_none, Option.isNone_some, Bool.not_true, Bool.not_false]
  refine w_rd O W 0 rfl rfl ?_
  simp only [oB_some, bC_true, bC_false, vInt_int, vBool_bool, vStr_string, vPtr_pointer, vSl_slice, vMap_map, vFun_func, vAgg_agg, vTup_tuple, vIfc_nil, vIfc_iface, lC_cons, lN_nil, aP_some, shO_none, shO_some, Option.isNone_none, Option.isNone_some, Bool.not_true, Bool.not_false]
  refine w_rd O W 0 rfl rfl ?_
  simp only [oB_some, bC_true, bC_false, vInt_int, vBool_bool, vStr_string, vPtr_pointer, vSl_slice, vMap_map, vFun_func, vAgg_agg, vTup_tuple, vIfc_nil, vIfc_iface, lC_cons, lN_nil, aP_some, shO_none, shO_some, Option.isNone_none, Option.isNone_some, Bool.not_true, Bool.not_false]
  obtain ⟨μ1, ρ2, c1, O1, W1, hc1⟩ := w_block O W [.int .i64 op, .slice aa an ac, .int .i64 n, .slice ba bn bc] (n := 1) (sz := 4) rfl rfl
  refine w_app (P := P) O1 W1 2 (n := N) (m := 1) ti_ty_sl_api_Stmt ti_ty_api_Stmt (by decide) rfl hlen (w_sl O1 W1 0 rfl) rfl rfl (by omega) (by omega) fun oa' oc' h2 μ2 ρ3 O2 W2 => ?_
  simp only [oB_some, bC_true, bC_false, vInt_int, vBool_bool, vStr_string, vPtr_pointer, vSl_slice, vMap_map, vFun_func, vAgg_agg, vTup_tuple, vIfc_nil, vIfc_iface, lC_cons, lN_nil, aP_some, shO_none, shO_some, Option.isNone_none, Option.isNone_some, Bool.not_true, Bool.not_false]
  exact H _ _ _ _ _ O2 ((W2.tail hc1).tail hcx)
theorem bd_cons {n deep : Nat} {l : Line} {r : List Line} {s : PS} (he : s.err = 0) (hl : l ≠ [wEnd]) (hg : (bd (n + 1) deep (l :: r) s).2.2.err = 0) : (stmtM l).ok = true ∧
    ((opensM (stmtM l).op = true ∧ (bd n (deep + 1) r ⟨s.i + 1, s.many + 1, 0, s.bad⟩).2.2.err = 0 ∧ (bd n deep (bd n (deep + 1) r ⟨s.i + 1, s.many + 1, 0, s.bad⟩).2.1 (bd n (deep + 1) r ⟨s.i + 1, s.many + 1, 0, s.bad⟩).2.2).2.2.err = 0 ∧
      bd (n + 1) deep (l :: r) s = (.cons (stmtM l).op (stmtM l).args (stmtM l).n (bd n (deep + 1) r ⟨s.i + 1, s.many + 1, 0, s.bad⟩).1 (bd n deep (bd n (deep + 1) r ⟨s.i + 1, s.many + 1, 0, s.bad⟩).2.1 (bd n (deep + 1) r ⟨s.i + 1, s.many + 1, 0, s.bad⟩).2.2).1,
        (bd n deep (bd n (deep + 1) r ⟨s.i + 1, s.many + 1, 0, s.bad⟩).2.1 (bd n (deep + 1) r ⟨s.i + 1, s.many + 1, 0, s.bad⟩).2.2).2.1, (bd n deep (bd n (deep + 1) r ⟨s.i + 1, s.many + 1, 0, s.bad⟩).2.1 (bd n (deep + 1) r ⟨s.i + 1, s.many + 1, 0, s.bad⟩).2.2).2.2)) ∨
     (opensM (stmtM l).op = false ∧ (bd n deep r ⟨s.i + 1, s.many + 1, 0, s.bad⟩).2.2.err = 0 ∧ bd (n + 1) deep (l :: r) s = (.cons (stmtM l).op (stmtM l).args (stmtM l).n .nil (bd n deep r ⟨s.i + 1, s.many + 1, 0, s.bad⟩).1, (bd n deep r ⟨s.i + 1, s.many + 1, 0, s.bad⟩).2.1, (bd n deep r ⟨s.i + 1, s.many + 1, 0, s.bad⟩).2.2))) := by
  cases hx : (stmtM l).ok with
  | false => rw [bd_bad he hl hx] at hg; simp at hg
  | true =>
    by_cases hm : s.many + 1 > 256
    · rw [bd_long he hl hx hm] at hg; simp at hg
    cases ho : opensM (stmtM l).op with
    | true =>
      by_cases hd : deep = 8
      · subst hd; rw [bd_deep he hl hx hm ho] at hg; simp at hg
      · have e := bd_open (n := n) (r := r) he hl hx hm ho hd
        refine ⟨rfl, .inl ⟨rfl, ?_, ?_, e⟩⟩
        · rw [e] at hg
          by_cases h0 : (bd n (deep + 1) r ⟨s.i + 1, s.many + 1, 0, s.bad⟩).2.2.err = 0
          · exact h0
          · rw [bd_err h0] at hg; exact hg
        · rw [e] at hg; exact hg
    | false =>
      have e := bd_plain (n := n) (deep := deep) (r := r) he hl hx hm ho
      refine ⟨rfl, .inr ⟨rfl, ?_, e⟩⟩
      rw [e] at hg; exact hg
theorem until_loop {ps : List Wds} {a : Option Addr} {cap : Nat} (X : Lns ρ ps a) (M : Mild (ps.map Wds.x)) {cm : Nat} (hcm : ρ cm = none) :
    ∀ (n deep : Nat) (r : List Line) (s : PS) {h : AW} {μ : Paint} {ρ1 ρ' : Store} {co : Nat} {oa : Option Addr} {oc : Nat} {cells : List Value} {vs : List (Option Addr × Nat × Nat × List Value)} {facc : F} {Q : Value → AW → Prop},
      Own h μ ρ' → Pcs ρ1 ρ' [co, cm] [.sl oa oc 4 cells, .many vs] → ρ1 co = none → Fra [] ρ ρ1 →
      r = (ps.map Wds.x).drop s.i → s.i ≤ ps.length → r.length < n → s.err = 0 → (bd n deep r s).2.2.err = 0 → facc.len ≤ s.i → Lies (Vm vs) facc cells →
      (∀ h' μ' ρ2 co' oa' oc' cells' vs' e, Own h' μ' ρ2 → Pcs ρ1 ρ2 [co', cm] [.sl oa' oc' 4 cells', .many vs'] → ρ1 co' = none →
        Lies (Vm vs') (facc.app (bd n deep r s).1) cells' → (∀ x, x ∈ vs → x ∈ vs') → (0 < deep → e = (bd n deep r s).2.2.i) → Q (.tuple ⟨[.slice oa' (facc.app (bd n deep r s).1).len oc', .int .i64 (e : Nat)]⟩) h') →
      unitAt P f_brickyardref13_Until 2 [0, 1, 6] [.slice a ps.length cap, .int .i64 (s.i : Int), .slice oa facc.len oc] h Q := by
  intro n
  induction n with
  | zero => intro deep r s h μ ρ1 ρ' co oa oc cells vs facc Q O W hco Fr hr hi hn; omega
  | succ n ih =>
    intro deep r s h μ ρ1 ρ' co oa oc cells vs facc Q O W hco Fr hr hi hn he hg hfl L hq
    have hps : ps.length ≤ 262144 := by have := M.len; simpa using this
    have hnm : ∀ c, c ∈ [co, cm] → ρ c = none := fun c hc => by
      simp at hc; rcases hc with rfl | rfl
      · exact Fr.none0 hco
      · exact hcm
    have F2 : Fra [] ρ ρ' := Fr.via W.fra hnm
    refine r_brickyardref13_Until_2 ?_
    by_cases hlt : s.i < ps.length
    rotate_left
    · have : r = [] := by rw [hr]; exact List.drop_eq_nil_of_le (by simp; omega)
      subst this
      rw [bd_nil he] at hq hg
      rw [geI (by omega)]
      simp only [oB_some, bC_true, bC_false, vInt_int, vBool_bool, vStr_string, vPtr_pointer, vSl_slice, vMap_map, vFun_func, vAgg_agg, vTup_tuple, vIfc_nil, vIfc_iface, lC_cons, lN_nil, aP_some, shO_none, shO_some, Option.isNone_none, Option.isNone_some, Bool.not_true, Bool.not_false]
      by_cases hd : deep > 0
      · rw [if_pos hd] at hg; simp at hg
      rw [wrapS (by omega)]
      rw [F.app_nil] at hq
      exact hq _ _ _ _ _ _ _ _ _ O W hco L (fun _ x => x) (fun x => absurd x hd)
    have hlt' : s.i < (ps.map Wds.x).length := by simpa using hlt
    obtain ⟨r', hr1, hr2⟩ : ∃ r', r = (ps[s.i]).x :: r' ∧ r' = (ps.map Wds.x).drop (s.i + 1) := by
      refine ⟨_, ?_, rfl⟩
      rw [hr, List.drop_eq_getElem_cons hlt']; simp
    subst hr1
    simp only [List.length_cons] at hn
    have hcap := X.caps _ (List.getElem_mem hlt)
    have hlen : (ps[s.i]).x.length ≤ 262144 := M.wds _ (List.mem_map_of_mem (List.getElem_mem hlt))
    rw [ltI hlt]
    simp only [oB_some, bC_true, bC_false, vInt_int, vBool_bool, vStr_string, vPtr_pointer, vSl_slice, vMap_map, vFun_func, vAgg_agg, vTup_tuple, vIfc_nil, vIfc_iface, lC_cons, lN_nil, aP_some, shO_none, shO_some, Option.isNone_none, Option.isNone_some, Bool.not_true, Bool.not_false]
    refine ln_at O (X.keep F2) rfl rfl hlt fun V => ?_
    have tail : (ps[s.i]).x ≠ [wEnd] →
        aP a fun m27 m28 => oB (natIdx (s.i : Int) ps.length) fun m29 => oB (AW.rd h m27 (m28 + m29 * 1)) fun v30 => vSl v30 fun p31 m32 m33 => EvQ P f_brickyardref13_Stmt [Value.slice p31 m32 m33]
        h fun v34 h35 => vTup v34 fun l36 => lC l36 fun v37 l38 => vAgg v37 fun l39 => lC l39 fun v40 l41 => vInt IntKind.i64 v40 fun n42 => lC l41 fun v43 l44 => vSl v43 fun p45 m46 m47 =>
        lC l44 fun v48 l49 => vInt IntKind.i64 v48 fun n50 => lC l49 fun v51 l52 => vSl v51 fun p53 m54 m55 => lN l52 (lC l38 fun v56 l57 => vBool v56 fun b58 => lN l57 (oB (AW.wrL
        (AW.addVar h35 [Value.int IntKind.i64 0, Value.slice none 0 0, Value.int IntKind.i64 0, Value.slice none 0 0]) (AW.next h35) 0 [Value.int IntKind.i64 n42, Value.slice p45 m46 m47,
        Value.int IntKind.i64 n50, Value.slice p53 m54 m55]) fun h59 => oB (AW.rd h59 (AW.next h35) 0) fun v60 => vInt IntKind.i64 v60 fun n61 => EvQ P f_brickyardref13_Opens [Value.int
        IntKind.i64 n61] h59 fun v62 h63 => vBool v62 fun b64 => bC b64 (EvQ P f_brickyardref13_Until [Value.slice a ps.length cap, Value.int IntKind.i64 (IntKind.wrap IntKind.i64 ((s.i :
        Int) + 1))] h63 fun v65 h66 => vTup v65 fun l67 => lC l67 fun v68 l69 => vSl v68 fun p70 m71 m72 => lC l69 fun v73 l74 => vInt IntKind.i64 v73 fun n75 => lN l74 (oB (AW.wr h66
        (AW.next h35) 3 (Value.slice p70 m71 m72)) fun h76 => oB (AW.rd h76 (AW.next h35) 0) fun v77 => vInt IntKind.i64 v77 fun n78 => oB (AW.rd h76 (AW.next h35) 1) fun v79 => vSl v79 fun
        p80 m81 m82 => oB (AW.rd h76 (AW.next h35) 2) fun v83 => vInt IntKind.i64 v83 fun n84 => oB (AW.rd h76 (AW.next h35) 3) fun v85 => vSl v85 fun p86 m87 m88 => oP (appendB P (AW.addVar
        h76 [Value.int IntKind.i64 n78, Value.slice p80 m81 m82, Value.int IntKind.i64 n84, Value.slice p86 m87 m88]) (Array.mk [ty_sl_api_Stmt, ty_sl_api_Stmt]) [Value.slice oa facc.len oc,
        Value.slice (some (Addr.mk (AW.next h76) 0 none)) 1 1]) fun v89 h90 => vSl v89 fun p91 m92 m93 => unitAt P f_brickyardref13_Until 2 [0, 1, 6] [Value.slice a ps.length cap, Value.int
        IntKind.i64 n75, Value.slice p91 m92 m93] h90 Q)) (oB (AW.rd h63 (AW.next h35) 0) fun v94 => vInt IntKind.i64 v94 fun n95 => oB (AW.rd h63 (AW.next h35) 1) fun v96 => vSl v96 fun p97
        m98 m99 => oB (AW.rd h63 (AW.next h35) 2) fun v100 => vInt IntKind.i64 v100 fun n101 => oB (AW.rd h63 (AW.next h35) 3) fun v102 => vSl v102 fun p103 m104 m105 => oP (appendB P
        (AW.addVar h63 [Value.int IntKind.i64 n95, Value.slice p97 m98 m99, Value.int IntKind.i64 n101, Value.slice p103 m104 m105]) (Array.mk [ty_sl_api_Stmt, ty_sl_api_Stmt]) [Value.slice
        oa facc.len oc, Value.slice (some (Addr.mk (AW.next h63) 0 none)) 1 1]) fun v106 h107 => vSl v106 fun p108 m109 m110 => unitAt P f_brickyardref13_Until 2 [0, 1, 6] [Value.slice a
        ps.length cap, Value.int IntKind.i64 (IntKind.wrap IntKind.i64 ((s.i : Int) + 1)), Value.slice p108 m109 m110] h107 Q))) := by
      intro hne
      refine ln_at O (X.keep F2) rfl rfl hlt fun V => ?_
      obtain ⟨hx, cases2⟩ := bd_cons he hne hg
      refine rstmt_ok O V hcap (by omega) ⟨fun _ h2 μ2 ρ3 ca aa ac O2 W2 hca => ?_, fun hx2 => by rw [hx] at hx2; cases hx2⟩
      simp only [oB_some, bC_true, bC_false, vInt_int, vBool_bool, vStr_string, vPtr_pointer, vSl_slice, vMap_map, vFun_func, vAgg_agg, vTup_tuple, vIfc_nil, vIfc_iface, lC_cons, lN_nil, aP_some, shO_none, shO_some, Option.isNone_none, Option.isNone_some, Bool.not_true, Bool.not_false]
      have W3 := W.adopt W2 hca
      have hca1 : ρ1 ca = none := W.not0 hca
      obtain ⟨μ3, ρ4, O3, W4⟩ := w_into O2 W3 hca1 1 rfl
      have fin : ∀ {h' : AW} {μ' : Paint} {ρ' : Store} {oa' : Option Addr} {oc' : Nat} {vs2 : List (Option Addr × Nat × Nat × List Value)} {bo : F} {ba : Option Addr} {bc : Nat} {bcells : List Value} (s2 : PS) (r2 : List Line), Own h' μ' ρ' →
          Pcs ρ1 ρ' [co, cm] [.sl oa' oc' 4 (cells ++ [.int .i64 (stmtM (ps[s.i]).x).op, .slice aa (stmtM (ps[s.i]).x).args.length ac, .int .i64 (stmtM (ps[s.i]).x).n, .slice ba bo.len bc]), .many vs2] →
          r2 = (ps.map Wds.x).drop s2.i → s2.i ≤ ps.length → r2.length < n → s2.err = 0 → (bd n deep r2 s2).2.2.err = 0 → s.i + 1 ≤ s2.i → (∀ x, x ∈ ((aa, ac, 1, strs (stmtM (ps[s.i]).x).args) :: vs) → x ∈ vs2) → Vm vs2 ba bcells → Lies (Vm vs2) bo bcells →
          bd (n + 1) deep ((ps[s.i]).x :: r') s = (.cons (stmtM (ps[s.i]).x).op (stmtM (ps[s.i]).x).args (stmtM (ps[s.i]).x).n bo (bd n deep r2 s2).1, (bd n deep r2 s2).2.1, (bd n deep r2 s2).2.2) →
          unitAt P f_brickyardref13_Until 2 [0, 1, 6] [.slice a ps.length cap, .int .i64 (s2.i : Int), .slice oa' (facc.len + 1) oc'] h' Q := by
        intro h' μ' ρ' oa' oc' vs2 bo ba bc bcells s2 r2 O' W' g1 g2 g3 g4 g4' g5 g6 g7 g8 g9
        rw [g9] at hq
        simp only [← F.snoc_app] at hq
        have L2 : Lies (Vm vs2) (facc.snoc (stmtM (ps[s.i]).x).op (stmtM (ps[s.i]).x).args (stmtM (ps[s.i]).x).n bo) (cells ++ [.int .i64 (stmtM (ps[s.i]).x).op, .slice aa (stmtM (ps[s.i]).x).args.length ac, .int .i64 (stmtM (ps[s.i]).x).n, .slice ba bo.len bc]) :=
          (L.mono fun _ _ y => y.more fun z hz => g6 z (by simp [hz])).app ⟨aa, ac, ba, bc, bcells, [], rfl, .inr ⟨ac, 1, g6 _ (by simp)⟩, g7, g8, rfl⟩
        have := ih deep r2 s2 (facc := facc.snoc (stmtM (ps[s.i]).x).op (stmtM (ps[s.i]).x).args (stmtM (ps[s.i]).x).n bo) (Q := Q) O' W' hco Fr g1 g2 g3 g4 g4' (by rw [F.snoc_len]; omega) L2
          (fun h3 μ3 ρ3 co3 oa3 oc3 cells3 vs3 e3 a1 a2 a3 a4 a5 a6 => hq h3 μ3 ρ3 co3 oa3 oc3 cells3 vs3 e3 a1 a2 a3 a4 (fun z hz => a5 z (g6 z (by simp [hz]))) a6)
        rw [F.snoc_len] at this
        exact this
      refine w_copy O3 W4 rfl rfl rfl fun h4 μ4 ρ5 cx O4 W5 hcx => ?_
      refine w_rd O4 W5 0 (j := 0) rfl rfl ?_
      simp only [oB_some, bC_true, bC_false, vInt_int, vBool_bool, vStr_string, vPtr_pointer, vSl_slice, vMap_map, vFun_func, vAgg_agg, vTup_tuple, vIfc_nil, vIfc_iface, lC_cons, lN_nil, aP_some, shO_none, shO_some, Option.isNone_none, Option.isNone_some, Bool.not_true, Bool.not_false]
      refine rOpens_ok ?_
      simp only [oB_some, bC_true, bC_false, vInt_int, vBool_bool, vStr_string, vPtr_pointer, vSl_slice, vMap_map, vFun_func, vAgg_agg, vTup_tuple, vIfc_nil, vIfc_iface, lC_cons, lN_nil, aP_some, shO_none, shO_some, Option.isNone_none, Option.isNone_some, Bool.not_true, Bool.not_false]
      rw [wrapS (j := s.i) (by omega)]
      rcases cases2 with ⟨ho, h1, h2', hbd⟩ | ⟨ho, h1, hbd⟩
      · rw [ho]
        simp only [oB_some, bC_true, bC_false, vInt_int, vBool_bool, vStr_string, vPtr_pointer, vSl_slice, vMap_map, vFun_func, vAgg_agg, vTup_tuple, vIfc_nil, vIfc_iface, lC_cons, lN_nil, aP_some, shO_none, shO_some, Option.isNone_none, Option.isNone_some, Bool.not_true, Bool.not_false]
        refine r_brickyardref13_Until ?_
        obtain ⟨ρ7, cb, O6, W7, hcb⟩ := w_nil O4 W5.self.tail'.tail' 4
        have F6 : Fra [] ρ ρ5 := Fr.via W5.fra fun c hc => by
          rcases List.mem_cons.1 hc with rfl | hc
          · exact Fr.none0 hcx
          · exact hnm c hc
        obtain ⟨i1, i2, i3, i4, i5⟩ := bd_inv (ps.map Wds.x) n (deep + 1) r' ⟨s.i + 1, s.many + 1, 0, s.bad⟩ hr2 (by simp only [List.length_map]; omega)
        have i6 := bd_len n (deep + 1) r' ⟨s.i + 1, s.many + 1, 0, s.bad⟩
        refine ih (deep + 1) r' ⟨s.i + 1, s.many + 1, 0, s.bad⟩ (facc := .nil) O6 W7 hcb F6 hr2 (by simp only; omega) (by omega) rfl h1 (Nat.zero_le _) rfl fun h7 μ7 ρ8 cb' ba bc bcells vs2 e O7 W8 hcb' L8 hmore hee => ?_
        have hee := hee (by omega)
        subst hee
        generalize bd n (deep + 1) r' ⟨s.i + 1, s.many + 1, 0, s.bad⟩ = q at i1 i2 i3 i4 i5 i6 hbd W8 L8 h1 h2' ⊢
        have L8 : Lies (Vm vs2) q.1 bcells := L8
        simp only [oB_some, bC_true, bC_false, vInt_int, vBool_bool, vStr_string, vPtr_pointer, vSl_slice, vMap_map, vFun_func, vAgg_agg, vTup_tuple, vIfc_nil, vIfc_iface, lC_cons, lN_nil, aP_some, shO_none, shO_some, Option.isNone_none, Option.isNone_some, Bool.not_true, Bool.not_false]
        have W9 := W5.call1 (fs := [cx, co]) (ms := [cm]) (xs := [_, _]) rfl W8 hcb'
        have hcb1 : ρ1 cb' = none := W5.not0 hcb'
        refine w_wr O7 W9 1 (j := 3) rfl (Nat.le_of_ble_eq_true rfl) rfl fun h8 ρ9 O8 W10 => ?_
        obtain ⟨μ9, ρ10, O9, W11⟩ := w_into O8 W10 hcb1 2 rfl
        refine app_g O9 W11 hcx L.len (by omega) fun h9 μ10 ρ11 oa' oc' O10 W12 => ?_
        exact fin (bo := q.1) q.2.2 q.2.1 O10 W12 i1 (by simpa using i2) (by omega) h1 h2' (by simp only at i3; omega) (fun x hx => List.mem_cons_of_mem _ (hmore x hx)) (.inr ⟨bc, 4, List.mem_cons_self⟩) (L8.mono fun _ _ y => y.more fun z hz => List.mem_cons_of_mem _ hz) hbd
      · rw [ho]
        simp only [oB_some, bC_true, bC_false, vInt_int, vBool_bool, vStr_string, vPtr_pointer, vSl_slice, vMap_map, vFun_func, vAgg_agg, vTup_tuple, vIfc_nil, vIfc_iface, lC_cons, lN_nil, aP_some, shO_none, shO_some, Option.isNone_none, Option.isNone_some, Bool.not_true, Bool.not_false]
        refine app_g O4 W5 hcx L.len (by omega) fun h9 μ10 ρ11 oa' oc' O10 W12 => ?_
        exact fin (bo := .nil) ⟨s.i + 1, s.many + 1, 0, s.bad⟩ r' O10 W12 hr2 (by simp only; omega) (by omega) rfl h1 (Nat.le_refl _) (fun _ x => x) (.inl ⟨rfl, rfl⟩) rfl hbd
    refine bC_iff (fun e1 => ?_) (fun e1 => tail fun x => by rw [x] at e1; simp at e1)
    refine ln_at O (X.keep F2) rfl rfl hlt fun V => ?_
    refine wd_at (j := 0) O V rfl rfl (by have := eqI e1; omega) ?_
    refine bC_iff (fun e2 => tail fun x => by simp [x] at e2) (fun e2 => ?_)
    have hend : (ps[s.i]).x = [wEnd] := by
      have h1 : (ps[s.i]).x.length = 1 := by have := eqI e1; omega
      obtain ⟨y, hy⟩ := List.length_eq_one_iff.1 h1
      have h2 := bEq_iff.1 (nb' e2)
      simp only [hy, List.getElem_cons_zero] at h2
      rw [hy, h2]
    rw [hend, bd_end he] at hq hg
    by_cases hd : deep = 0
    · rw [if_pos hd] at hg; simp at hg
    rw [if_neg hd] at hq
    rw [wrapS (j := s.i) (by omega)]
    rw [F.app_nil] at hq
    exact hq _ _ _ _ _ _ _ _ (s.i + 1) O W hco L (fun _ x => x) (fun _ => rfl)
end Go.Proofs.YtgdkekdedgkglaaDoor
end

section
/- Lines of words as statements: made, and as said. -/
namespace Go.Proofs.YtgdkekdedgkglaaDoor
open Go.Abs Go.Abs.Fo
set_option maxRecDepth 100000
attribute [local irreducible] unitAt EvQ
variable {h : AW} {μ : Paint} {ρ : Store} {Q : Value → AW → Prop}

/-- What a reading of lines comes to. -/
def NewP (Q : Value → AW → Prop) (ρ : Store) (p : F × Int × Int) : Prop :=
  ∀ h' μ' ρ' co cm oa oc cells vs, Own h' μ' ρ' → Pcs ρ ρ' [co, cm] [.sl oa oc 4 cells, .many vs] → ρ co = none → ρ cm = none → Lies (Vm vs) p.1 cells →
    Q (.tuple ⟨[.slice oa p.1.len oc, .agg ⟨[.int .i64 p.2.1, .int .i64 p.2.2]⟩]⟩) h'
theorem NewP.nil {p : F × Int × Int} (hq : NewP Q ρ p) (e : p.1 = .nil) {h' : AW} {μ' : Paint} {ρ' : Store} (O : Own h' μ' ρ') (F : Fra [] ρ ρ') : Q (.tuple ⟨[.slice Option.none 0 0, .agg ⟨[.int .i64 p.2.1, .int .i64 p.2.2]⟩]⟩) h' := by
  obtain ⟨ρ1, c1, O1, W1, hc1⟩ := w_many O (Pcs.none F)
  obtain ⟨ρ2, c2, O2, W2, hc2⟩ := w_nil O1 W1 4
  have := hq h' μ' ρ2 c2 c1 Option.none 0 [] [] O2 W2 hc2 hc1 (by rw [e]; rfl)
  rw [e] at this
  exact this
theorem parse_ok {G : Str → Prop} (O : Own h μ ρ) (T : Tbs G ρ) {ps : List Wds} {a : Option Addr} {cap : Nat} (X : Lns ρ ps a) (M : Mild (ps.map Wds.x)) (hG : ∀ p, p ∈ ps → ∀ w s, p.x = [w, s] → opOf w = 10 → G s) (hq : NewP Q ρ (parseM (ps.map Wds.x))) : EvQ P f_action_Parse [.slice a ps.length cap] h Q := by
  refine r_action_Parse ?_
  obtain ⟨μ1, ρ1, c1, O1, W1, hc1⟩ := w_new O p00 [.slice a ps.length cap]
  obtain ⟨μ2, ρ2, c2, O2, W2, hc2⟩ := w_new O1 W1 [.int .i64 0, .int .i64 0]
  obtain ⟨μ3, ρ3, c3, O3, W3, hc3⟩ := w_new O2 W2 [.int .i64 0]
  have W3 := W3.swap2
  obtain ⟨μ4, ρ4, c4, O4, W4, hc4⟩ := w_new O3 W3 [.int .i64 0]
  have W4 := W4.swap2
  refine w_wr O4 W4 2 (j := 0) rfl (Nat.le_of_ble_eq_true rfl) rfl fun h5 ρ5 O5 W5 => ?_
  refine w_wr O5 W5 1 (j := 0) rfl (Nat.le_of_ble_eq_true rfl) rfl fun h6 ρ6 O6 W6 => ?_
  obtain ⟨μ7, ρ7, c7, O7, W7, hc7⟩ := w_new O6 W6 [.int .i64 0, .int .i64 0]
  have W7 := W7.swap2
  obtain ⟨μ8, ρ8, c8, O8, W8, hc8⟩ := w_new O7 W7 [.nilFunc]
  have W8 := W8.swap2
  refine w_wr O8 W8 1 (j := 0) rfl (Nat.le_of_ble_eq_true rfl) rfl fun h9 ρ9 O9 W9 => ?_
  obtain ⟨μ10, ρ10, c10, O10, W10, hc10⟩ := w_new O9 W9 [.nilFunc]
  have W10 := W10.swap2
  refine w_wr O10 W10 1 (j := 0) rfl (Nat.le_of_ble_eq_true rfl) rfl fun h11 ρ11 O11 W11 => ?_
  refine w_rd O11 W11 1 (j := 0) rfl rfl ?_
  simp only [oB_some, bC_true, bC_false, vInt_int, vBool_bool, vStr_string, vPtr_pointer, vSl_slice, vMap_map, vFun_func, vAgg_agg, vTup_tuple, vIfc_nil, vIfc_iface, lC_cons, lN_nil, aP_some, shO_none, shO_some, Option.isNone_none, Option.isNone_some, Bool.not_true, Bool.not_false]
  obtain ⟨ρ12, cm, O12, W12, hcm⟩ := w_many O11 W11
  have W12 := W12.swap2
  refine r_action_Parse_fn2 ?_
  obtain ⟨ρ13, co, O13, W13, hco⟩ := w_nil O12 W12.self.tail' 4
  have fr : ∀ c, c ∈ [c2, cm, c10, c8, c7, c4, c3, c1] → ρ c = none := fun c hc => by
    simp only [List.mem_cons, List.not_mem_nil, or_false] at hc
    rcases hc with rfl | rfl | rfl | rfl | rfl | rfl | rfl | rfl <;> assumption
  have F12 : Fra [] ρ ρ12 := W12.fra0 fr
  refine body_loop (cm := cm) (ns := [c10, c8, c7, c4, c3, c1]) T X M hG (fun c hc => fr c (List.mem_cons_of_mem _ hc)) ((ps.map Wds.x).length + 1) 0 (ps.map Wds.x) ps0 (facc := .nil) O13 W13 hco F12 rfl (by simp [ps0]) (by omega) (Nat.le_refl _) (by omega) (Nat.zero_le _) rfl
    fun h14 μ14 ρ14 co' oa oc cells vs O14 W14 hco' L14 _ => ?_
  have W15 := W12.call1 (fs := [c2]) (ms := [cm, c10, c8, c7, c4, c3, c1]) (xs := [_]) rfl W14 hco'
  have hco1 : ρ co' = none := F12.none0 hco'
  have L14 : Lies (Vm vs) (bd ((ps.map Wds.x).length + 1) 0 (ps.map Wds.x) ps0).1 cells := L14
  have hp : parseM (ps.map Wds.x) = (if (bd ((ps.map Wds.x).length + 1) 0 (ps.map Wds.x) ps0).2.2.err ≠ 0 then (.nil, (bd ((ps.map Wds.x).length + 1) 0 (ps.map Wds.x) ps0).2.2.err, (bd ((ps.map Wds.x).length + 1) 0 (ps.map Wds.x) ps0).2.2.bad) else ((bd ((ps.map Wds.x).length + 1) 0 (ps.map Wds.x) ps0).1, 0, 0)) := rfl
  rw [hp] at hq
  generalize bd ((ps.map Wds.x).length + 1) 0 (ps.map Wds.x) ps0 = q at W15 L14 hq ⊢
  simp only [oB_some, bC_true, bC_false, vInt_int, vBool_bool, vStr_string, vPtr_pointer, vSl_slice, vMap_map, vFun_func, vAgg_agg, vTup_tuple, vIfc_nil, vIfc_iface, lC_cons, lN_nil, aP_some, shO_none, shO_some, Option.isNone_none, Option.isNone_some, Bool.not_true, Bool.not_false]
  refine w_rd O14 W15 5 (j := 0) rfl rfl ?_
  simp only [oB_some, bC_true, bC_false, vInt_int, vBool_bool, vStr_string, vPtr_pointer, vSl_slice, vMap_map, vFun_func, vAgg_agg, vTup_tuple, vIfc_nil, vIfc_iface, lC_cons, lN_nil, aP_some, shO_none, shO_some, Option.isNone_none, Option.isNone_some, Bool.not_true, Bool.not_false]
  have fr2 : ∀ c, c ∈ [co', c2, cm, c10, c8, c7, c4, c3, c1] → ρ c = none := fun c hc => by
    rcases List.mem_cons.1 hc with rfl | hc
    · exact hco1
    · exact fr c hc
  refine bC_iff (fun e => ?_) (fun e => ?_)
  · have e : q.2.2.err ≠ 0 := by simpa using e
    rw [if_pos e] at hq
    repeat (first | refine ⟨rfl, ?_⟩ | refine ⟨trivial, ?_⟩ | simp only [oB_some, bC_true, bC_false, vInt_int, vBool_bool, vStr_string, vPtr_pointer, vSl_slice, vMap_map, vFun_func, vAgg_agg, vTup_tuple, vIfc_nil, vIfc_iface, lC_cons, lN_nil, aP_some, shO_none, shO_some, Option.isNone_none, Option.isNone_some, Bool.not_true, Bool.not_false] | refine w_rd (by assumption) (by assumption) 0 (by rfl) (by rfl) ?_ | refine w_rd (by assumption) (by assumption) 1 (by rfl) (by rfl) ?_ | refine w_rd (by assumption) (by assumption) 2 (by rfl) (by rfl) ?_ | refine w_rd (by assumption) (by assumption) 3 (by rfl) (by rfl) ?_ | refine w_rd (by assumption) (by assumption) 4 (by rfl) (by rfl) ?_ | refine w_rd (by assumption) (by assumption) 5 (by rfl) (by rfl) ?_ | refine w_rd (by assumption) (by assumption) 6 (by rfl) (by rfl) ?_ | refine w_rd (by assumption) (by assumption) 7 (by rfl) (by rfl) ?_ | refine w_rd (by assumption) (by assumption) 8 (by rfl) (by rfl) ?_ | refine w_wrL (by assumption) (by assumption) 0 (by rfl) (Nat.le_of_ble_eq_true (by rfl)) (by rfl) fun h ρz O W => ?_ | refine w_wrL (by assumption) (by assumption) 1 (by rfl) (Nat.le_of_ble_eq_true (by rfl)) (by rfl) fun h ρz O W => ?_ | refine w_wrL (by assumption) (by assumption) 2 (by rfl) (Nat.le_of_ble_eq_true (by rfl)) (by rfl) fun h ρz O W => ?_ | refine w_wrL (by assumption) (by assumption) 3 (by rfl) (Nat.le_of_ble_eq_true (by rfl)) (by rfl) fun h ρz O W => ?_ | refine w_wrL (by assumption) (by assumption) 4 (by rfl) (Nat.le_of_ble_eq_true (by rfl)) (by rfl) fun h ρz O W => ?_ | refine w_wrL (by assumption) (by assumption) 5 (by rfl) (Nat.le_of_ble_eq_true (by rfl)) (by rfl) fun h ρz O W => ?_ | refine w_wrL (by assumption) (by assumption) 6 (by rfl) (Nat.le_of_ble_eq_true (by rfl)) (by rfl) fun h ρz O W => ?_ | refine w_wrL (by assumption) (by assumption) 7 (by rfl) (Nat.le_of_ble_eq_true (by rfl)) (by rfl) fun h ρz O W => ?_ | refine w_wrL (by assumption) (by assumption) 8 (by rfl) (Nat.le_of_ble_eq_true (by rfl)) (by rfl) fun h ρz O W => ?_ | refine w_wr (by assumption) (by assumption) 0 (by rfl) (Nat.le_of_ble_eq_true (by rfl)) (by rfl) fun h ρz O W => ?_ | refine w_wr (by assumption) (by assumption) 1 (by rfl) (Nat.le_of_ble_eq_true (by rfl)) (by rfl) fun h ρz O W => ?_ | refine w_wr (by assumption) (by assumption) 2 (by rfl) (Nat.le_of_ble_eq_true (by rfl)) (by rfl) fun h ρz O W => ?_ | refine w_wr (by assumption) (by assumption) 3 (by rfl) (Nat.le_of_ble_eq_true (by rfl)) (by rfl) fun h ρz O W => ?_ | refine w_wr (by assumption) (by assumption) 4 (by rfl) (Nat.le_of_ble_eq_true (by rfl)) (by rfl) fun h ρz O W => ?_ | refine w_wr (by assumption) (by assumption) 5 (by rfl) (Nat.le_of_ble_eq_true (by rfl)) (by rfl) fun h ρz O W => ?_ | refine w_wr (by assumption) (by assumption) 6 (by rfl) (Nat.le_of_ble_eq_true (by rfl)) (by rfl) fun h ρz O W => ?_ | refine w_wr (by assumption) (by assumption) 7 (by rfl) (Nat.le_of_ble_eq_true (by rfl)) (by rfl) fun h ρz O W => ?_ | refine w_wr (by assumption) (by assumption) 8 (by rfl) (Nat.le_of_ble_eq_true (by rfl)) (by rfl) fun h ρz O W => ?_)
    exact hq.nil rfl (by assumption) (Pcs.fra0 (by assumption) fr2)
  · have e : q.2.2.err = 0 := by simpa using e
    rw [if_neg (fun h => h e)] at hq
    refine w_wrL O14 W15 1 (j := 0) rfl (Nat.le_of_ble_eq_true rfl) rfl fun h16 ρ16 O16 W16 => ?_
    repeat (first | refine ⟨rfl, ?_⟩ | refine ⟨trivial, ?_⟩ | simp only [oB_some, bC_true, bC_false, vInt_int, vBool_bool, vStr_string, vPtr_pointer, vSl_slice, vMap_map, vFun_func, vAgg_agg, vTup_tuple, vIfc_nil, vIfc_iface, lC_cons, lN_nil, aP_some, shO_none, shO_some, Option.isNone_none, Option.isNone_some, Bool.not_true, Bool.not_false] | refine w_rd (by assumption) (by assumption) 0 (by rfl) (by rfl) ?_ | refine w_rd (by assumption) (by assumption) 1 (by rfl) (by rfl) ?_ | refine w_wrL (by assumption) (by assumption) 0 (by rfl) (Nat.le_of_ble_eq_true (by rfl)) (by rfl) fun h ρz O W => ?_ | refine w_wrL (by assumption) (by assumption) 1 (by rfl) (Nat.le_of_ble_eq_true (by rfl)) (by rfl) fun h ρz O W => ?_ | refine w_wr (by assumption) (by assumption) 0 (by rfl) (Nat.le_of_ble_eq_true (by rfl)) (by rfl) fun h ρz O W => ?_ | refine w_wr (by assumption) (by assumption) 1 (by rfl) (Nat.le_of_ble_eq_true (by rfl)) (by rfl) fun h ρz O W => ?_)
    have hne : co' ≠ cm := by
      have := W16.nodup
      simp at this
      exact this.1.2.1
    exact hq _ _ _ co' cm oa oc cells vs O16 (Pcs.mk2 (W16.at_ 0 _ _ rfl rfl) (W16.at_ 2 _ _ rfl rfl) hne (W16.fra0 fr2)) hco1 hcm L14
theorem rparse_ok (O : Own h μ ρ) {ps : List Wds} {a : Option Addr} {cap : Nat} (X : Lns ρ ps a) (M : Mild (ps.map Wds.x)) (hq : NewP Q ρ (parseM (ps.map Wds.x))) : EvQ P f_brickyardref13_Parse [.slice a ps.length cap] h Q := by
  refine r_brickyardref13_Parse ?_
  obtain ⟨μ1, ρ1, c1, O1, W1, hc1⟩ := w_new O p00 [.int .i64 0, .int .i64 0]
  have F1 : Fra [] ρ ρ1 := W1.fra0 fun c hc => by simp at hc; rw [hc]; exact hc1
  refine r_brickyardref13_Check ?_
  obtain ⟨μ2, ρ2, c2, O2, W2, hc2⟩ := w_new O1 p00 [.int .i64 0, .int .i64 0]
  refine rcheck_loop (X.keep F1) M _ 0 0 0 rfl (by omega) (by omega) (by omega) O2 W2 hc2 fun h3 μ3 ρ3 O3 F3 => ?_
  have W3 := W1.keep0 F3
  rw [List.drop_zero]
  simp only [oB_some, bC_true, bC_false, vInt_int, vBool_bool, vStr_string, vPtr_pointer, vSl_slice, vMap_map, vFun_func, vAgg_agg, vTup_tuple, vIfc_nil, vIfc_iface, lC_cons, lN_nil, aP_some, shO_none, shO_some, Option.isNone_none, Option.isNone_some, Bool.not_true, Bool.not_false]
  refine w_copy O3 W3 rfl rfl rfl fun h4 μ4 ρ4 c4 O4 W4 hc4 => ?_
  have fr : ∀ c, c ∈ [c4, c1] → ρ c = none := fun c hc => by simp at hc; rcases hc with rfl | rfl <;> assumption
  have key := bd_chk ((ps.map Wds.x).length + 1) 0 (ps.map Wds.x) ps0 (by omega) rfl (by omega)
  have hp : parseM (ps.map Wds.x) = (if (bd ((ps.map Wds.x).length + 1) 0 (ps.map Wds.x) ps0).2.2.err ≠ 0 then (.nil, (bd ((ps.map Wds.x).length + 1) 0 (ps.map Wds.x) ps0).2.2.err, (bd ((ps.map Wds.x).length + 1) 0 (ps.map Wds.x) ps0).2.2.bad) else ((bd ((ps.map Wds.x).length + 1) 0 (ps.map Wds.x) ps0).1, 0, 0)) := rfl
  rw [hp] at hq
  refine w_rd O4 W4 0 (j := 0) rfl rfl ?_
  simp only [oB_some, bC_true, bC_false, vInt_int, vBool_bool, vStr_string, vPtr_pointer, vSl_slice, vMap_map, vFun_func, vAgg_agg, vTup_tuple, vIfc_nil, vIfc_iface, lC_cons, lN_nil, aP_some, shO_none, shO_some, Option.isNone_none, Option.isNone_some, Bool.not_true, Bool.not_false]
  refine bC_iff (fun e => ?_) (fun e => ?_)
  · have e : (chk (ps.map Wds.x) 0 0 0).1 ≠ 0 := by simpa using e
    rcases key with ⟨k1, k2⟩ | ⟨k1, _, k2, _⟩
    · have k2 : chk (ps.map Wds.x) 0 0 0 = _ := k2
      rw [if_pos k1] at hq
      rw [k2] at W4
      repeat (first | refine ⟨rfl, ?_⟩ | refine ⟨trivial, ?_⟩ | simp only [oB_some, bC_true, bC_false, vInt_int, vBool_bool, vStr_string, vPtr_pointer, vSl_slice, vMap_map, vFun_func, vAgg_agg, vTup_tuple, vIfc_nil, vIfc_iface, lC_cons, lN_nil, aP_some, shO_none, shO_some, Option.isNone_none, Option.isNone_some, Bool.not_true, Bool.not_false] | refine w_rd (by assumption) (by assumption) 0 (by rfl) (by rfl) ?_ | refine w_rd (by assumption) (by assumption) 1 (by rfl) (by rfl) ?_ | refine w_wrL (by assumption) (by assumption) 0 (by rfl) (Nat.le_of_ble_eq_true (by rfl)) (by rfl) fun h ρz O W => ?_ | refine w_wrL (by assumption) (by assumption) 1 (by rfl) (Nat.le_of_ble_eq_true (by rfl)) (by rfl) fun h ρz O W => ?_ | refine w_wr (by assumption) (by assumption) 0 (by rfl) (Nat.le_of_ble_eq_true (by rfl)) (by rfl) fun h ρz O W => ?_ | refine w_wr (by assumption) (by assumption) 1 (by rfl) (Nat.le_of_ble_eq_true (by rfl)) (by rfl) fun h ρz O W => ?_)
      exact hq.nil rfl (by assumption) (Pcs.fra0 (by assumption) fr)
    · have k2 : chk (ps.map Wds.x) 0 0 0 = (0, 0) := (k2 rfl).2.1
      rw [k2] at e; exact absurd rfl e
  · have e : (chk (ps.map Wds.x) 0 0 0).1 = 0 := by simpa using e
    rcases key with ⟨k1, k2⟩ | ⟨k1, _, k2, _⟩
    · have k2 : chk (ps.map Wds.x) 0 0 0 = _ := k2
      rw [k2] at e; exact absurd e k1
    have k2 : chk (ps.map Wds.x) 0 0 0 = (0, 0) := (k2 rfl).2.1
    rw [if_neg (fun h => h k1)] at hq
    rw [k2] at W4
    refine r_brickyardref13_Until ?_
    obtain ⟨ρ5, cm, O5, W5, hcm⟩ := w_many O4 W4
    have fr5 : ∀ c, c ∈ [cm, c4, c1] → ρ c = none := fun c hc => by simp at hc; rcases hc with rfl | rfl | rfl <;> assumption
    obtain ⟨ρ6, co, O6, W6, hco⟩ := w_nil O5 (Pcs.one (W5.at_ 0 _ _ rfl rfl)) 4
    have F5 := W5.fra0 fr5
    have W5r := W5.rot
    refine until_loop X M hcm ((ps.map Wds.x).length + 1) 0 (ps.map Wds.x) ps0 (facc := .nil) O6 W6 hco F5 rfl (by simp [ps0]) (by omega) rfl k1 (Nat.zero_le _) rfl fun h7 μ7 ρ7 co' oa oc cells vs ee O7 W7 hco' L7 _ _ => ?_
    have W8 := W5r.call1 (fs := [c4, c1]) (ms := [cm]) (xs := [_, _]) rfl W7 hco'
    have hco1 : ρ co' = none := F5.none0 hco'
    have L7 : Lies (Vm vs) (bd ((ps.map Wds.x).length + 1) 0 (ps.map Wds.x) ps0).1 cells := L7
    generalize bd ((ps.map Wds.x).length + 1) 0 (ps.map Wds.x) ps0 = q at L7 hq ⊢
    repeat (first | refine ⟨rfl, ?_⟩ | refine ⟨trivial, ?_⟩ | simp only [oB_some, bC_true, bC_false, vInt_int, vBool_bool, vStr_string, vPtr_pointer, vSl_slice, vMap_map, vFun_func, vAgg_agg, vTup_tuple, vIfc_nil, vIfc_iface, lC_cons, lN_nil, aP_some, shO_none, shO_some, Option.isNone_none, Option.isNone_some, Bool.not_true, Bool.not_false] | refine w_rd (by assumption) (by assumption) 0 (by rfl) (by rfl) ?_ | refine w_rd (by assumption) (by assumption) 1 (by rfl) (by rfl) ?_ | refine w_rd (by assumption) (by assumption) 2 (by rfl) (by rfl) ?_ | refine w_wrL (by assumption) (by assumption) 0 (by rfl) (Nat.le_of_ble_eq_true (by rfl)) (by rfl) fun h ρz O W => ?_ | refine w_wrL (by assumption) (by assumption) 1 (by rfl) (Nat.le_of_ble_eq_true (by rfl)) (by rfl) fun h ρz O W => ?_ | refine w_wrL (by assumption) (by assumption) 2 (by rfl) (Nat.le_of_ble_eq_true (by rfl)) (by rfl) fun h ρz O W => ?_ | refine w_wr (by assumption) (by assumption) 0 (by rfl) (Nat.le_of_ble_eq_true (by rfl)) (by rfl) fun h ρz O W => ?_ | refine w_wr (by assumption) (by assumption) 1 (by rfl) (Nat.le_of_ble_eq_true (by rfl)) (by rfl) fun h ρz O W => ?_ | refine w_wr (by assumption) (by assumption) 2 (by rfl) (Nat.le_of_ble_eq_true (by rfl)) (by rfl) fun h ρz O W => ?_)
    have hne : co' ≠ cm := by
      have := W8.nodup
      simp at this
      exact this.1.2.2
    have fr6 : ∀ c, c ∈ [co', c4, c1, cm] → ρ c = none := fun c hc => by simp at hc; rcases hc with rfl | rfl | rfl | rfl <;> assumption
    exact hq _ _ _ co' cm oa oc cells vs (by assumption) (Pcs.mk2 (Pcs.at_ (by assumption) 0 _ _ rfl rfl) (Pcs.at_ (by assumption) 3 _ _ rfl rfl) hne (Pcs.fra0 (by assumption) fr6)) hco1 hcm L7
end Go.Proofs.YtgdkekdedgkglaaDoor
end

section
namespace Go.Proofs.YtgdkekdedgkglaaDoor
open Go.Abs
set_option maxRecDepth 100000
set_option maxHeartbeats 400000
def worksP (h : AW) (Q : Value → AW → Prop) : Prop := EvQ P f_action_Parse [Value.slice (some (Addr.mk (AW.next (AW.addVar (AW.addVar (AW.addVar (AW.addVar h [Value.string (ByteArray.mk
  #[101, 97, 99, 104]), Value.string (ByteArray.mk #[108, 105, 115, 116])]) [Value.string (ByteArray.mk #[99, 97, 116]), Value.string (ByteArray.mk #[64])]) [Value.string
  (ByteArray.mk #[101, 110, 100])]) [Value.string (ByteArray.mk #[119, 114, 105, 116, 101]), Value.string (ByteArray.mk #[120])])) 0 none)) 4 4] (AW.addVar (AW.addVar (AW.addVar
  (AW.addVar (AW.addVar h [Value.string (ByteArray.mk #[101, 97, 99, 104]), Value.string (ByteArray.mk #[108, 105, 115, 116])]) [Value.string (ByteArray.mk #[99, 97, 116]),
  Value.string (ByteArray.mk #[64])]) [Value.string (ByteArray.mk #[101, 110, 100])]) [Value.string (ByteArray.mk #[119, 114, 105, 116, 101]), Value.string (ByteArray.mk #[120])])
  [Value.slice (some (Addr.mk (AW.next h) 0 none)) 2 2, Value.slice (some (Addr.mk (AW.next (AW.addVar h [Value.string (ByteArray.mk #[101, 97, 99, 104]), Value.string
  (ByteArray.mk #[108, 105, 115, 116])])) 0 none)) 2 2, Value.slice (some (Addr.mk (AW.next (AW.addVar (AW.addVar h [Value.string (ByteArray.mk #[101, 97, 99, 104]), Value.string
  (ByteArray.mk #[108, 105, 115, 116])]) [Value.string (ByteArray.mk #[99, 97, 116]), Value.string (ByteArray.mk #[64])])) 0 none)) 1 1, Value.slice (some (Addr.mk (AW.next
  (AW.addVar (AW.addVar (AW.addVar h [Value.string (ByteArray.mk #[101, 97, 99, 104]), Value.string (ByteArray.mk #[108, 105, 115, 116])]) [Value.string (ByteArray.mk #[99, 97,
  116]), Value.string (ByteArray.mk #[64])]) [Value.string (ByteArray.mk #[101, 110, 100])])) 0 none)) 2 2]) fun v1 h2 => vTup v1 fun l3 => lC l3 fun v4 l5 => vSl v4 fun p6 m7 m8
  => lC l5 fun v9 l10 => vAgg v9 fun l11 => lC l11 fun v12 l13 => vInt IntKind.i64 v12 fun n14 => lC l13 fun v15 l16 => vInt IntKind.i64 v15 fun n17 => lN l16 (lN l10 (oB (AW.wrL
  (AW.addVar h2 [Value.int IntKind.i64 0, Value.int IntKind.i64 0]) (AW.next h2) 0 [Value.int IntKind.i64 n14, Value.int IntKind.i64 n17]) fun h18 => oB (AW.rd h18 (AW.next h2) 0)
  fun v19 => vInt IntKind.i64 v19 fun n20 => oB (AW.rd h18 (AW.next h2) 1) fun v21 => vInt IntKind.i64 v21 fun n22 => bC (n20 == 0 && (n22 == 0 && true)) (bC ((↑m7 : Int) == 2) (aP
  p6 fun m23 m24 => oB (natIdx 0 m7) fun m25 => oB (AW.rd h18 m23 (m24 + m25 * 4)) fun v26 => vInt IntKind.i64 v26 fun n27 => bC (n27 == 11) (aP p6 fun m28 m29 => oB (natIdx 0 m7)
  fun m30 => oB (AW.rd h18 m28 (m29 + m30 * 4 + 3)) fun v31 => vSl v31 fun p32 m33 m34 => bC ((↑m33 : Int) == 1) (aP p6 fun m35 m36 => oB (natIdx 1 m7) fun m37 => oB (AW.rd h18 m35
  (m36 + m37 * 4 + 1)) fun v38 => vSl v38 fun p39 m40 m41 => bC ((↑m40 : Int) == 1) (aP p6 fun m42 m43 => oB (natIdx 1 m7) fun m44 => oB (AW.rd h18 m42 (m43 + m44 * 4 + 1)) fun v45
  => vSl v45 fun p46 m47 m48 => aP p46 fun m49 m50 => oB (natIdx 0 m47) fun m51 => oB (AW.rd h18 m49 (m50 + m51 * 1)) fun v52 => vStr v52 fun s53 => Q (Value.bool (bEq s53
  (ByteArray.mk #[120]))) h18) (Q (Value.bool false) h18)) (Q (Value.bool false) h18)) (Q (Value.bool false) h18)) (Q (Value.bool false) h18)) (Q (Value.bool false) h18)))
theorem works_eq (h : AW) (Q : Value → AW → Prop) : worksP h Q = kFn P f_brickyardlaw13_works 400 (annOf []) [] h Q := by kernel_rfl
attribute [local irreducible] kFn EvQ worksP in
theorem r_brickyardlaw13_works {h : AW} {Q : Value → AW → Prop} (H : worksP h Q) : EvQ P f_brickyardlaw13_works [] h Q := by
  rw [works_eq] at H
  exact fn_ok H
end Go.Proofs.YtgdkekdedgkglaaDoor
end

section
/- One answer that the document fixes. -/
namespace Go.Proofs.YtgdkekdedgkglaaDoor
open Go.Abs Go.Abs.Fo
set_option maxRecDepth 100000
attribute [local irreducible] unitAt EvQ
variable {h : AW} {μ : Paint} {ρ : Store} {Q : Value → AW → Prop}
abbrev wList : Str := ⟨#[108, 105, 115, 116]⟩
abbrev wAt : Str := ⟨#[64]⟩
abbrev wX : Str := ⟨#[120]⟩
theorem works_says : parseM [[wEach, wList], [wCat, wAt], [wEnd], [wWrite, wX]] = (.cons 11 [wList] 0 (.cons 2 [wAt] 0 .nil .nil) (.cons 8 [wX] 0 .nil .nil), 0, 0) := by rfl
theorem works_ok (O : Own h μ ρ) (hq : RdQ Q ρ (.bool true)) : EvQ P f_brickyardlaw13_works [] h Q := by
  refine r_brickyardlaw13_works ?_
  unfold worksP
  obtain ⟨μ1, ρ1, c1, O1, W1, hc1⟩ := w_block O p00 (strs [wEach, wList]) (n := 2) (sz := 1) rfl rfl
  obtain ⟨μ2, ρ2, c2, O2, W2, hc2⟩ := w_block O1 W1 (strs [wCat, wAt]) (n := 2) (sz := 1) rfl rfl
  obtain ⟨μ3, ρ3, c3, O3, W3, hc3⟩ := w_block O2 W2 (strs [wEnd]) (n := 1) (sz := 1) rfl rfl
  obtain ⟨μ4, ρ4, c4, O4, W4, hc4⟩ := w_block O3 W3 (strs [wWrite, wX]) (n := 2) (sz := 1) rfl rfl
  obtain ⟨μ5, ρ5, c5, O5, W5, hc5⟩ := w_block O4 W4 ([⟨some ⟨h.next, 0, none⟩, 2, [wEach, wList]⟩, ⟨some ⟨h.next + 1, 0, none⟩, 2, [wCat, wAt]⟩, ⟨some ⟨h.next + 2, 0, none⟩, 1, [wEnd]⟩, ⟨some ⟨h.next + 3, 0, none⟩, 2, [wWrite, wX]⟩].map Wds.cell) (n := 4) (sz := 1) rfl rfl
  have fr : ∀ c, c ∈ [c5, c4, c3, c2, c1] → ρ c = none := fun c hc => by
    simp only [List.mem_cons, List.not_mem_nil, or_false] at hc
    rcases hc with rfl | rfl | rfl | rfl | rfl <;> assumption
  have F5 : Fra [] ρ ρ5 := W5.fra0 fr
  have X : Lns ρ5 [⟨some ⟨h.next, 0, none⟩, 2, [wEach, wList]⟩, ⟨some ⟨h.next + 1, 0, none⟩, 2, [wCat, wAt]⟩, ⟨some ⟨h.next + 2, 0, none⟩, 1, [wEnd]⟩, ⟨some ⟨h.next + 3, 0, none⟩, 2, [wWrite, wX]⟩] (some ⟨h.next + 4, 0, none⟩) := by
    refine ⟨.inr (Rd.of_sl O5 (by simp) (W5.at_ 0 _ _ rfl rfl)), fun p hp => ?_, fun p hp => ?_⟩
    · simp only [List.mem_cons, List.not_mem_nil, or_false] at hp
      rcases hp with rfl | rfl | rfl | rfl
      · exact .inr (Rd.of_sl O5 (by simp) (W5.at_ 4 _ _ rfl rfl))
      · exact .inr (Rd.of_sl O5 (by simp) (W5.at_ 3 _ _ rfl rfl))
      · exact .inr (Rd.of_sl O5 (by simp) (W5.at_ 2 _ _ rfl rfl))
      · exact .inr (Rd.of_sl O5 (by simp) (W5.at_ 1 _ _ rfl rfl))
    · simp only [List.mem_cons, List.not_mem_nil, or_false] at hp
      rcases hp with rfl | rfl | rfl | rfl <;> simp
  refine parse_ok O5 Tbs.none X (wide_not (by rfl)) (fun p hp w s e h10 => ?_) fun h6 μ6 ρ6 co cm oa oc cells vs O6 W6 hco hcm L6 => ?_
  · simp only [List.mem_cons, List.not_mem_nil, or_false] at hp
    rcases hp with rfl | rfl | rfl | rfl <;> simp only [List.cons.injEq, and_true, List.cons_ne_nil, and_false, reduceCtorEq] at e
    all_goals (obtain ⟨rfl, rfl⟩ := e; exact absurd h10 (by decide))
  · have hsay : parseM (List.map Wds.x [⟨some ⟨h.next, 0, none⟩, 2, [wEach, wList]⟩, ⟨some ⟨h.next + 1, 0, none⟩, 2, [wCat, wAt]⟩, ⟨some ⟨h.next + 2, 0, none⟩, 1, [wEnd]⟩, ⟨some ⟨h.next + 3, 0, none⟩, 2, [wWrite, wX]⟩]) = _ := works_says
    rw [hsay] at L6 ⊢
    have F6 : Fra [] ρ ρ6 := F5.trans (W6.fra0 fun c hc => by simp at hc; rcases hc with rfl | rfl <;> assumption)
    have h1 := W6.at_ 0 _ _ rfl rfl
    have h2 := W6.at_ 1 _ _ rfl rfl
    have L6' : Lies (Vw ρ6 []) _ cells := L6.mono fun _ _ x => x.read O6 h2
    have V6 : Vw ρ6 [] oa cells := .inr (Rd.of_sl O6 (by simp) h1)
    simp only [oB_some, bC_true, bC_false, vInt_int, vBool_bool, vStr_string, vPtr_pointer, vSl_slice, vMap_map, vFun_func, vAgg_agg, vTup_tuple, vIfc_nil, vIfc_iface, lC_cons, lN_nil, aP_some, shO_none, shO_some, Option.isNone_none, Option.isNone_some, Bool.not_true, Bool.not_false]
    refine w_copy O6 p00 rfl rfl rfl fun h7 μ7 ρ7 c7 O7 W7 hc7 => ?_
    have F7 : Fra [] ρ6 ρ7 := W7.fra0 fun c hc => by simp at hc; rw [hc]; exact hc7
    have L7 := L6'.mono fun _ _ x => Vw.keep x F7
    have V7 := V6.keep F7
    repeat (first | refine ⟨rfl, ?_⟩ | refine ⟨trivial, ?_⟩ | simp only [oB_some, bC_true, bC_false, vInt_int, vBool_bool, vStr_string, vPtr_pointer, vSl_slice, vMap_map, vFun_func, vAgg_agg, vTup_tuple, vIfc_nil, vIfc_iface, lC_cons, lN_nil, aP_some, shO_none, shO_some, Option.isNone_none, Option.isNone_some, Bool.not_true, Bool.not_false] | refine w_rd (by assumption) (by assumption) 0 (by rfl) (by rfl) ?_ | refine w_wrL (by assumption) (by assumption) 0 (by rfl) (Nat.le_of_ble_eq_true (by rfl)) (by rfl) fun h ρz O W => ?_ | refine w_wr (by assumption) (by assumption) 0 (by rfl) (Nat.le_of_ble_eq_true (by rfl)) (by rfl) fun h ρz O W => ?_)
    refine st_open (pre := .nil) O7 V7 L7 rfl rfl fun i off aa ac ba bc va la SA => ?_
    refine oB_bind (SA O7 Fra.refl).r0 ?_
    simp only [oB_some, bC_true, bC_false, vInt_int, vBool_bool, vStr_string, vPtr_pointer, vSl_slice, vMap_map, vFun_func, vAgg_agg, vTup_tuple, vIfc_nil, vIfc_iface, lC_cons, lN_nil, aP_some, shO_none, shO_some, Option.isNone_none, Option.isNone_some, Bool.not_true, Bool.not_false]
    refine st_open (pre := .nil) O7 V7 L7 rfl rfl fun i off aa ac ba bc va la SA => ?_
    refine oB_bind (SA O7 Fra.refl).r3 ?_
    simp only [oB_some, bC_true, bC_false, vInt_int, vBool_bool, vStr_string, vPtr_pointer, vSl_slice, vMap_map, vFun_func, vAgg_agg, vTup_tuple, vIfc_nil, vIfc_iface, lC_cons, lN_nil, aP_some, shO_none, shO_some, Option.isNone_none, Option.isNone_some, Bool.not_true, Bool.not_false]
    refine st_open (pre := .cons 11 [wList] 0 (.cons 2 [wAt] 0 .nil .nil) .nil) O7 V7 L7 rfl rfl fun i off aa ac ba bc va la SA => ?_
    refine oB_bind (SA O7 Fra.refl).r1 ?_
    simp only [oB_some, bC_true, bC_false, vInt_int, vBool_bool, vStr_string, vPtr_pointer, vSl_slice, vMap_map, vFun_func, vAgg_agg, vTup_tuple, vIfc_nil, vIfc_iface, lC_cons, lN_nil, aP_some, shO_none, shO_some, Option.isNone_none, Option.isNone_some, Bool.not_true, Bool.not_false]
    refine st_open (pre := .cons 11 [wList] 0 (.cons 2 [wAt] 0 .nil .nil) .nil) O7 V7 L7 rfl rfl fun i off aa ac ba bc va la SA => ?_
    refine oB_bind (SA O7 Fra.refl).r1 ?_
    simp only [oB_some, bC_true, bC_false, vInt_int, vBool_bool, vStr_string, vPtr_pointer, vSl_slice, vMap_map, vFun_func, vAgg_agg, vTup_tuple, vIfc_nil, vIfc_iface, lC_cons, lN_nil, aP_some, shO_none, shO_some, Option.isNone_none, Option.isNone_some, Bool.not_true, Bool.not_false]
    refine wd_at (j := 0) O7 va rfl rfl (by simp) ?_
    exact hq _ _ _ O7 (F6.trans F7)
end Go.Proofs.YtgdkekdedgkglaaDoor
end
