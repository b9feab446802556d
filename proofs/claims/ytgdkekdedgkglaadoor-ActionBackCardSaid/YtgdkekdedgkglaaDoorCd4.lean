/- A deterministic heap for the model, proved sound, and walks of the program over it: part 10. No condition. -/
import Derived.Test.YtgdkekdedgkglaaDoorAb1
import Derived.Test.YtgdkekdedgkglaaDoorAb2
import Derived.Test.YtgdkekdedgkglaaDoorAb3
import Derived.Test.YtgdkekdedgkglaaDoorAb4
import Derived.Test.YtgdkekdedgkglaaDoorAb5
import Derived.Test.YtgdkekdedgkglaaDoorAb6
import Derived.Test.YtgdkekdedgkglaaDoorCd1
import Derived.Test.YtgdkekdedgkglaaDoorCd3
import Derived.Test.YtgdkekdedgkglaaDoorCd2
set_option linter.unusedVariables false
set_option linter.unusedSimpArgs false
set_option linter.unusedSectionVars false
section
/- A quoted word is read. -/
namespace Go.Proofs.YtgdkekdedgkglaaDoor
open Go.Abs Go.Abs.Fo
set_option maxRecDepth 100000
attribute [local irreducible] unitAt EvQ
variable {h : AW} {μ : Paint} {ρ0 ρ : Store} {Q : Value → AW → Prop} {ns : List Nat} {rs : List Res}
theorem cmpB (c m : UInt8) : ((c.toNat : Int) == (m.toNat : Int)) = decide (c = m) := by
  rw [Bool.eq_iff_iff, beq_iff_eq, decide_eq_true_eq, ← UInt8.toNat_inj]; omega
/-- What an escaped byte stands for. -/
def escOf : List (UInt8 × Nat × UInt8) := [(34, 0, 34), (92, 1, 92), (110, 2, 10), (116, 3, 9)]
theorem esc_cases (c : UInt8) : (∃ d k, (d, k, c) ∈ escOf ∧ escL c = [92, d]) ∨ (c ≠ 10 ∧ c ≠ 34 ∧ c ≠ 92 ∧ escL c = [c]) := by
  unfold escL
  by_cases h1 : c = 10
  · exact .inl ⟨110, 2, by rw [h1]; decide, by rw [if_pos h1]⟩
  rw [if_neg h1]
  by_cases h2 : c = 9
  · exact .inl ⟨116, 3, by rw [h2]; decide, by rw [if_pos h2]⟩
  rw [if_neg h2]
  by_cases h3 : c = 34
  · exact .inl ⟨34, 0, by rw [h3]; decide, by rw [if_pos h3]⟩
  rw [if_neg h3]
  by_cases h4 : c = 92
  · exact .inl ⟨92, 1, by rw [h4]; decide, by rw [if_pos h4]⟩
  rw [if_neg h4]
  exact .inr ⟨h1, h3, h4, rfl⟩
theorem esc_facts : ∀ t, t ∈ escOf → t.1 ≠ 10 ∧ idxB (⟨#[34, 92, 110, 116]⟩ : Str).data.toList ((t.1.toNat : Int)).toNat.toUInt8 = (t.2.1 : Int) ∧ t.2.1 < 4 ∧ bAt ⟨#[34, 92, 10, 9]⟩ t.2.1 = some (t.2.2.toNat : Int) := by decide
theorem quoted_2 {n1 n2 n3 n4 bp rp i e : Nat} {T : Str} {z : Int} {all r : List UInt8} (hT : T.size ≤ 1000000) (hall : all.length ≤ 1000000) (h1 : ρ0 n1 = none) (h2 : ρ0 n2 = none) (h3 : ρ0 n3 = none) (h4 : ρ0 n4 = none) (hil : i < rs.length)
    (hq : ∀ h' μ' ρ' ln co, Own h' μ' ρ' → Pcs ρ0 ρ' ns (rs.set i (rdr rp T e ln co)) → Q (.string ⟨⟨all⟩⟩) h') :
    ∀ (x : List UInt8) {h : AW} {μ : Paint} {ρ : Store} {p cap : Nat} {ln co : Int} {acc : List UInt8} {u : Option Addr} {b : Option Nat}, T.data.toList.drop p = x.flatMap escL ++ 34 :: r → p + (x.flatMap escL).length + 1 = e → acc ++ x = all → Own h μ ρ →
      Pcs ρ0 ρ (n1 :: n2 :: n3 :: n4 :: ns) (bldR bp u b cap acc (rs.set i (rdr rp T p ln co))) → (u = none ∨ u = some ⟨bp, 0, none⟩) → (acc = [] → b = none) →
      unitAt P f_p_lex_reader_quoted 2 [0, 1, 5] [.pointer (some ⟨rp, 0, none⟩), .int .i64 z, .pointer (some ⟨bp, 0, none⟩)] h Q
  | [], h, μ, ρ, p, cap, ln, co, acc, u, b, hd, he, ha, O, W, hu, hb => by
    rw [List.append_nil] at ha
    subst ha
    rw [List.flatMap_nil, List.nil_append] at hd
    rw [List.flatMap_nil, List.length_nil] at he
    have hi : (bldR bp u b cap acc (rs.set i (rdr rp T p ln co)))[i + 4]? = some (rdr rp T p ln co) := List.getElem?_set_self hil
    have hj : (34 : UInt8) = 92 → r.head? ≠ some 10 := fun x => absurd x (by decide)
    refine r_p_lex_reader_quoted_2 ?_
    refine peek_ok O W (i + 4) hi hd hj ?_
    simp only [oB_some, bC_true, bC_false, vInt_int, vBool_bool, vStr_string, vPtr_pointer, vSl_slice, vMap_map, vFun_func, vAgg_agg, vTup_tuple, vIfc_nil, vIfc_iface, lC_cons, lN_nil, aP_some, shO_none, shO_some, Option.isNone_none, Option.isNone_some, Bool.not_true, Bool.not_false]
    rw [show ((1 : Int) == 0) = false from rfl, show ((1 : Int) == 1) = true from rfl, show (((34 : UInt8).toNat : Int) == 10) = false from rfl]
    simp only [oB_some, bC_true, bC_false, vInt_int, vBool_bool, vStr_string, vPtr_pointer, vSl_slice, vMap_map, vFun_func, vAgg_agg, vTup_tuple, vIfc_nil, vIfc_iface, lC_cons, lN_nil, aP_some, shO_none, shO_some, Option.isNone_none, Option.isNone_some, Bool.not_true, Bool.not_false]
    refine r_p_lex_reader_quoted_5 ?_
    simp only [oB_some, bC_true, bC_false, vInt_int, vBool_bool, vStr_string, vPtr_pointer, vSl_slice, vMap_map, vFun_func, vAgg_agg, vTup_tuple, vIfc_nil, vIfc_iface, lC_cons, lN_nil, aP_some, shO_none, shO_some, Option.isNone_none, Option.isNone_some, Bool.not_true, Bool.not_false]
    refine w_rd O W (i + 4) (j := 1) hi rfl ?_
    simp only [oB_some, bC_true, bC_false, vInt_int, vBool_bool, vStr_string, vPtr_pointer, vSl_slice, vMap_map, vFun_func, vAgg_agg, vTup_tuple, vIfc_nil, vIfc_iface, lC_cons, lN_nil, aP_some, shO_none, shO_some, Option.isNone_none, Option.isNone_some, Bool.not_true, Bool.not_false]
    refine next_ok O W (i + 4) hT hi hd hj fun h5 ρ5 ln5 co5 O5 W5 => ?_
    rw [show ((1 : Int) == 1) = true from rfl, show (((34 : UInt8).toNat : Int) == 34) = true from rfl]
    simp only [oB_some, bC_true, bC_false, vInt_int, vBool_bool, vStr_string, vPtr_pointer, vSl_slice, vMap_map, vFun_func, vAgg_agg, vTup_tuple, vIfc_nil, vIfc_iface, lC_cons, lN_nil, aP_some, shO_none, shO_some, Option.isNone_none, Option.isNone_some, Bool.not_true, Bool.not_false]
    have W5 : Pcs ρ0 ρ5 (n1 :: n2 :: n3 :: n4 :: ns) (bldR bp u b cap acc (rs.set i (rdr rp T (p + 1) ln5 co5))) := W5.eq (by
      show bldR bp u b cap acc ((rs.set i (rdr rp T p ln co)).set i (rdr rp T (p + 1) ln5 co5)) = _
      rw [List.set_set])
    refine bs_ok O5 W5 h1 h2 (by omega) hb fun h6 ρ6 O6 W6 => ?_
    simp only [oB_some, bC_true, bC_false, vInt_int, vBool_bool, vStr_string, vPtr_pointer, vSl_slice, vMap_map, vFun_func, vAgg_agg, vTup_tuple, vIfc_nil, vIfc_iface, lC_cons, lN_nil, aP_some, shO_none, shO_some, Option.isNone_none, Option.isNone_some, Bool.not_true, Bool.not_false]
    have : p + 1 = e := by omega
    rw [this] at W6
    exact hq _ _ _ ln5 co5 O6 ((W6.tail h3).tail h4)
  | c :: x, h, μ, ρ, p, cap, ln, co, acc, u, b, hd, he, ha, O, W, hu, hb => by
    rw [List.flatMap_cons, List.append_assoc] at hd
    rw [List.flatMap_cons, List.length_append] at he
    have hal : acc.length ≤ 1000000 := by rw [← ha, List.length_append] at hall; omega
    have hi : (bldR bp u b cap acc (rs.set i (rdr rp T p ln co)))[i + 4]? = some (rdr rp T p ln co) := List.getElem?_set_self hil
    have W' : ∀ {u b cap acc p ln co p' ln' co'} {ρ : Store}, Pcs ρ0 ρ (n1 :: n2 :: n3 :: n4 :: ns) ((bldR bp u b cap acc (rs.set i (rdr rp T p ln co))).set (i + 4) (rdr rp T p' ln' co')) → Pcs ρ0 ρ (n1 :: n2 :: n3 :: n4 :: ns) (bldR bp u b cap acc (rs.set i (rdr rp T p' ln' co'))) := fun {u b cap acc p ln co p' ln' co' ρ} w => w.eq (by
      show bldR bp u b cap acc ((rs.set i (rdr rp T p ln co)).set i (rdr rp T p' ln' co')) = _
      rw [List.set_set])
    refine r_p_lex_reader_quoted_2 ?_
    rcases esc_cases c with ⟨d, k, hm, e1⟩ | ⟨c10, c34, c92, e1⟩
    · obtain ⟨f1, f2, f3, f4⟩ := esc_facts _ hm
      simp only at f1 f2 f3 f4
      rw [e1] at hd he
      have hd : T.data.toList.drop p = 92 :: (d :: (x.flatMap escL ++ 34 :: r)) := hd
      have hj : (92 : UInt8) = 92 → (d :: (x.flatMap escL ++ 34 :: r)).head? ≠ some 10 := fun _ y => f1 (by simpa using y)
      have hd2 := drop_next hd
      have hj2 : d = 92 → (x.flatMap escL ++ 34 :: r).head? ≠ some 10 := fun _ => by
        cases x with
        | nil => simp
        | cons c' x =>
          rcases esc_cases c' with ⟨d', k', _, e'⟩ | ⟨g, _, _, e'⟩
          · rw [List.flatMap_cons, e']; simp
          · rw [List.flatMap_cons, e']; simpa using g
      refine peek_ok O W (i + 4) hi hd hj ?_
      simp only [oB_some, bC_true, bC_false, vInt_int, vBool_bool, vStr_string, vPtr_pointer, vSl_slice, vMap_map, vFun_func, vAgg_agg, vTup_tuple, vIfc_nil, vIfc_iface, lC_cons, lN_nil, aP_some, shO_none, shO_some, Option.isNone_none, Option.isNone_some, Bool.not_true, Bool.not_false]
      rw [show ((1 : Int) == 0) = false from rfl, show ((1 : Int) == 1) = true from rfl, show (((92 : UInt8).toNat : Int) == 10) = false from rfl]
      simp only [oB_some, bC_true, bC_false, vInt_int, vBool_bool, vStr_string, vPtr_pointer, vSl_slice, vMap_map, vFun_func, vAgg_agg, vTup_tuple, vIfc_nil, vIfc_iface, lC_cons, lN_nil, aP_some, shO_none, shO_some, Option.isNone_none, Option.isNone_some, Bool.not_true, Bool.not_false]
      refine r_p_lex_reader_quoted_5 ?_
      simp only [oB_some, bC_true, bC_false, vInt_int, vBool_bool, vStr_string, vPtr_pointer, vSl_slice, vMap_map, vFun_func, vAgg_agg, vTup_tuple, vIfc_nil, vIfc_iface, lC_cons, lN_nil, aP_some, shO_none, shO_some, Option.isNone_none, Option.isNone_some, Bool.not_true, Bool.not_false]
      refine w_rd O W (i + 4) (j := 1) hi rfl ?_
      simp only [oB_some, bC_true, bC_false, vInt_int, vBool_bool, vStr_string, vPtr_pointer, vSl_slice, vMap_map, vFun_func, vAgg_agg, vTup_tuple, vIfc_nil, vIfc_iface, lC_cons, lN_nil, aP_some, shO_none, shO_some, Option.isNone_none, Option.isNone_some, Bool.not_true, Bool.not_false]
      refine next_ok O W (i + 4) hT hi hd hj fun h5 ρ5 ln5 co5 O5 W5 => ?_
      have W5 := W' W5
      have hi5 : (bldR bp u b cap acc (rs.set i (rdr rp T (p + 1) ln5 co5)))[i + 4]? = some (rdr rp T (p + 1) ln5 co5) := List.getElem?_set_self hil
      rw [show ((1 : Int) == 1) = true from rfl, show (((92 : UInt8).toNat : Int) == 34) = false from rfl, show (((92 : UInt8).toNat : Int) == 92) = true from rfl]
      simp only [oB_some, bC_true, bC_false, vInt_int, vBool_bool, vStr_string, vPtr_pointer, vSl_slice, vMap_map, vFun_func, vAgg_agg, vTup_tuple, vIfc_nil, vIfc_iface, lC_cons, lN_nil, aP_some, shO_none, shO_some, Option.isNone_none, Option.isNone_some, Bool.not_true, Bool.not_false]
      refine peek_ok O5 W5 (i + 4) hi5 hd2 hj2 ?_
      simp only [oB_some, bC_true, bC_false, vInt_int, vBool_bool, vStr_string, vPtr_pointer, vSl_slice, vMap_map, vFun_func, vAgg_agg, vTup_tuple, vIfc_nil, vIfc_iface, lC_cons, lN_nil, aP_some, shO_none, shO_some, Option.isNone_none, Option.isNone_some, Bool.not_true, Bool.not_false]
      refine indexByte_ok ?_
      rw [f2]
      simp only [oB_some, bC_true, bC_false, vInt_int, vBool_bool, vStr_string, vPtr_pointer, vSl_slice, vMap_map, vFun_func, vAgg_agg, vTup_tuple, vIfc_nil, vIfc_iface, lC_cons, lN_nil, aP_some, shO_none, shO_some, Option.isNone_none, Option.isNone_some, Bool.not_true, Bool.not_false]
      rw [show ((1 : Int) != 1) = false from rfl, show decide ((k : Int) < 0) = false from decide_eq_false (by omega)]
      simp only [oB_some, bC_true, bC_false, vInt_int, vBool_bool, vStr_string, vPtr_pointer, vSl_slice, vMap_map, vFun_func, vAgg_agg, vTup_tuple, vIfc_nil, vIfc_iface, lC_cons, lN_nil, aP_some, shO_none, shO_some, Option.isNone_none, Option.isNone_some, Bool.not_true, Bool.not_false]
      refine r_p_lex_reader_quoted_15 ?_
      rw [natIdx_eq f3]
      simp only [oB_some, bC_true, bC_false, vInt_int, vBool_bool, vStr_string, vPtr_pointer, vSl_slice, vMap_map, vFun_func, vAgg_agg, vTup_tuple, vIfc_nil, vIfc_iface, lC_cons, lN_nil, aP_some, shO_none, shO_some, Option.isNone_none, Option.isNone_some, Bool.not_true, Bool.not_false]
      refine oB_bind f4 ?_
      refine wb_ok O5 W5 hu c rfl (by omega) fun h6 μ6 ρ6 b6 cap6 O6 W6 => ?_
      simp only [oB_some, bC_true, bC_false, vInt_int, vBool_bool, vStr_string, vPtr_pointer, vSl_slice, vMap_map, vFun_func, vAgg_agg, vTup_tuple, vIfc_nil, vIfc_iface, lC_cons, lN_nil, aP_some, shO_none, shO_some, Option.isNone_none, Option.isNone_some, Bool.not_true, Bool.not_false]
      have hi6 : (bldR bp (some ⟨bp, 0, none⟩) b6 cap6 (acc ++ [c]) (rs.set i (rdr rp T (p + 1) ln5 co5)))[i + 4]? = some (rdr rp T (p + 1) ln5 co5) := List.getElem?_set_self hil
      refine next_ok O6 W6 (i + 4) hT hi6 hd2 hj2 fun h7 ρ7 ln7 co7 O7 W7 => ?_
      have hd3 := drop_next hd2
      simp only [List.length_cons, List.length_nil] at he
      exact quoted_2 hT hall h1 h2 h3 h4 hil hq x hd3 (by omega) (by rw [List.append_assoc]; exact ha) O7 (W' W7) (.inr rfl) (by simp)
    · rw [e1] at hd he
      have hd : T.data.toList.drop p = c :: (x.flatMap escL ++ 34 :: r) := hd
      have hj : c = 92 → (x.flatMap escL ++ 34 :: r).head? ≠ some 10 := fun y => absurd y c92
      refine peek_ok O W (i + 4) hi hd hj ?_
      simp only [oB_some, bC_true, bC_false, vInt_int, vBool_bool, vStr_string, vPtr_pointer, vSl_slice, vMap_map, vFun_func, vAgg_agg, vTup_tuple, vIfc_nil, vIfc_iface, lC_cons, lN_nil, aP_some, shO_none, shO_some, Option.isNone_none, Option.isNone_some, Bool.not_true, Bool.not_false]
      rw [show ((1 : Int) == 0) = false from rfl, show ((1 : Int) == 1) = true from rfl, show ((c.toNat : Int) == 10) = false from (cmpB c 10).trans (decide_eq_false c10)]
      simp only [oB_some, bC_true, bC_false, vInt_int, vBool_bool, vStr_string, vPtr_pointer, vSl_slice, vMap_map, vFun_func, vAgg_agg, vTup_tuple, vIfc_nil, vIfc_iface, lC_cons, lN_nil, aP_some, shO_none, shO_some, Option.isNone_none, Option.isNone_some, Bool.not_true, Bool.not_false]
      refine r_p_lex_reader_quoted_5 ?_
      simp only [oB_some, bC_true, bC_false, vInt_int, vBool_bool, vStr_string, vPtr_pointer, vSl_slice, vMap_map, vFun_func, vAgg_agg, vTup_tuple, vIfc_nil, vIfc_iface, lC_cons, lN_nil, aP_some, shO_none, shO_some, Option.isNone_none, Option.isNone_some, Bool.not_true, Bool.not_false]
      refine w_rd O W (i + 4) (j := 1) hi rfl ?_
      simp only [oB_some, bC_true, bC_false, vInt_int, vBool_bool, vStr_string, vPtr_pointer, vSl_slice, vMap_map, vFun_func, vAgg_agg, vTup_tuple, vIfc_nil, vIfc_iface, lC_cons, lN_nil, aP_some, shO_none, shO_some, Option.isNone_none, Option.isNone_some, Bool.not_true, Bool.not_false]
      refine next_ok O W (i + 4) hT hi hd hj fun h5 ρ5 ln5 co5 O5 W5 => ?_
      have W5 := W' W5
      rw [show ((1 : Int) == 1) = true from rfl, show ((c.toNat : Int) == 34) = false from (cmpB c 34).trans (decide_eq_false c34), show ((c.toNat : Int) == 92) = false from (cmpB c 92).trans (decide_eq_false c92)]
      simp only [oB_some, bC_true, bC_false, vInt_int, vBool_bool, vStr_string, vPtr_pointer, vSl_slice, vMap_map, vFun_func, vAgg_agg, vTup_tuple, vIfc_nil, vIfc_iface, lC_cons, lN_nil, aP_some, shO_none, shO_some, Option.isNone_none, Option.isNone_some, Bool.not_true, Bool.not_false]
      refine wb_ok O5 W5 hu c rfl (by omega) fun h6 μ6 ρ6 b6 cap6 O6 W6 => ?_
      simp only [oB_some, bC_true, bC_false, vInt_int, vBool_bool, vStr_string, vPtr_pointer, vSl_slice, vMap_map, vFun_func, vAgg_agg, vTup_tuple, vIfc_nil, vIfc_iface, lC_cons, lN_nil, aP_some, shO_none, shO_some, Option.isNone_none, Option.isNone_some, Bool.not_true, Bool.not_false]
      have hd3 := drop_next hd
      simp only [List.length_cons, List.length_nil] at he
      exact quoted_2 hT hall h1 h2 h3 h4 hil hq x hd3 (by omega) (by rw [List.append_assoc]; exact ha) O6 W6 (.inr rfl) (by simp)
theorem quoted_ok (O : Own h μ ρ) (W : Pcs ρ0 ρ ns rs) (i : Nat) {rp p : Nat} {T : Str} (hT : T.size ≤ 1000000) {ln co z : Int} (hi : rs[i]? = some (rdr rp T p ln co)) {x r : List UInt8} (hd : T.data.toList.drop p = x.flatMap escL ++ 34 :: r) (hx : x.length ≤ 1000000)
    (hq : ∀ h' μ' ρ' ln co, Own h' μ' ρ' → Pcs ρ0 ρ' ns (rs.set i (rdr rp T (p + (x.flatMap escL).length + 1) ln co)) → Q (.string ⟨⟨x⟩⟩) h') :
    EvQ P f_p_lex_reader_quoted [.pointer (some ⟨rp, 0, none⟩), .int .i64 z] h Q := by
  refine r_p_lex_reader_quoted ?_
  have hil : i < rs.length := (List.getElem?_eq_some_iff.1 hi).1
  have hs : rs.set i (rdr rp T p ln co) = rs := by
    apply List.ext_getElem?
    intro j
    rw [List.getElem?_set]
    split
    · rename_i e; subst e; first | exact hi.symm | (rw [if_pos hil]; exact hi.symm)
    · rfl
  obtain ⟨μ1, ρ1, n1, n2, n3, n4, O1, W1, h1, h2, h3, h4⟩ := new_bld O W
  rw [← hs] at W1
  exact quoted_2 hT hx h1 h2 h3 h4 hil hq x hd rfl rfl O1 W1 (.inl rfl) (fun _ => rfl)
end Go.Proofs.YtgdkekdedgkglaaDoor
end

section
/- The reader's loop: blanks, ends of lines, words. -/
namespace Go.Proofs.YtgdkekdedgkglaaDoor
open Go.Abs Go.Abs.Fo
set_option maxRecDepth 100000
attribute [local irreducible] unitAt EvQ
variable {h : AW} {μ : Paint} {ρ0 ρ : Store} {Q : Value → AW → Prop}
structure Wx where
  t : Str
  l : Int
  c : Int
  q : Bool
def Wx.cells (w : Wx) : List Value := [.string w.t, .int .i64 w.l, .int .i64 w.c, .bool w.q, .bool false]
structure Lx where
  n : Int
  a : Option Addr
  cap : Nat
  ws : List Wx
def Lx.cells (l : Lx) : List Value := [.int .i64 l.n, .bool false, .slice l.a l.ws.length l.cap]
theorem wx_len (ws : List Wx) : (ws.flatMap Wx.cells).length = ws.length * 5 := by
  induction ws with
  | nil => rfl
  | cons w ws ih => simp only [List.flatMap_cons, List.length_append, List.length_cons, ih, Wx.cells, List.length_nil]; omega
theorem lx_len (ls : List Lx) : (ls.flatMap Lx.cells).length = ls.length * 3 := by
  induction ls with
  | nil => rfl
  | cons w ws ih => simp only [List.flatMap_cons, List.length_append, List.length_cons, ih, Lx.cells, List.length_nil]; omega
/-- The words of the lines lie in the bundle. -/
def OutsOk (vs : List (Option Addr × Nat × Nat × List Value)) (outs : List Lx) : Prop := ∀ l, l ∈ outs → ∃ cap, (l.a, cap, 5, l.ws.flatMap Wx.cells) ∈ vs
def stX (wa oa : Option Addr) (wc oc : Nat) (ws : List Wx) (outs : List Lx) (vs : List (Option Addr × Nat × Nat × List Value)) (rp op lp p : Nat) (T : Str) (ln co num : Int) : List Res :=
  [.sl wa wc 5 (ws.flatMap Wx.cells), .many vs, rdr rp T p ln co, .var op [.slice oa outs.length oc], .var lp [.int .i64 num, .bool false, .slice wa ws.length wc], .sl oa oc 3 (outs.flatMap Lx.cells)]
abbrev uL (rp op lp : Nat) (b : Bool) : List Value := [.pointer (some ⟨rp, 0, none⟩), .pointer (some ⟨op, 0, none⟩), .pointer (some ⟨lp, 0, none⟩), .bool b, .func (.func f_p_lex_reader_lines_fn1) ⟨[]⟩ ⟨[.pointer (some ⟨lp, 0, none⟩), .pointer (some ⟨op, 0, none⟩)]⟩]
/-- From a place on the loop does what it shall. -/
def At5 (Q : Value → AW → Prop) (ρ0 : Store) (nm nr no nl nt : Nat) (T : Str) (rp op lp : Nat) (b : Bool) (p : Nat) (wt : List Str) (ot : List Line) : Prop :=
  ∀ ⦃h : AW⦄ ⦃μ : Paint⦄ ⦃ρ : Store⦄ ⦃nw : Nat⦄ ⦃wa oa : Option Addr⦄ ⦃wc oc : Nat⦄ ⦃ws : List Wx⦄ ⦃outs : List Lx⦄ ⦃vs : List (Option Addr × Nat × Nat × List Value)⦄ ⦃ln co num : Int⦄, Own h μ ρ → ρ0 nw = none →
    Pcs ρ0 ρ [nw, nm, nr, no, nl, nt] (stX wa oa wc oc ws outs vs rp op lp p T ln co num) → ws.map Wx.t = wt → outs.map (fun l => l.ws.map Wx.t) = ot → OutsOk vs outs → unitAt P f_p_lex_reader_lines 5 [0, 3, 4, 5, 6] (uL rp op lp b) h Q
section
variable {nm nr no nl nt rp op lp p : Nat} {T : Str} {b : Bool} {wt : List Str} {ot : List Line}
/-- A word is laid behind the others. -/
theorem push_word (O : Own h μ ρ) {cw nw wp : Nat} {wa oa : Option Addr} {wc oc : Nat} {ws : List Wx} {outs : List Lx} {vs : List (Option Addr × Nat × Nat × List Value)} {ln co num : Int} {w : Wx} (hcw : ρ0 cw = none) (hl : ws.length ≤ 1000000)
    (W : Pcs ρ0 ρ (cw :: [nw, nm, nr, no, nl, nt]) (.var wp w.cells :: stX wa oa wc oc ws outs vs rp op lp p T ln co num)) {K : AW → Prop}
    (H : ∀ h' μ' ρ' wa' wc', Own h' μ' ρ' → Pcs ρ0 ρ' [nw, nm, nr, no, nl, nt] (stX wa' oa wc' oc (ws ++ [w]) outs vs rp op lp p T ln co num) → K h') :
    oB (AW.rd h lp 2) fun v11 => vSl v11 fun p12 m13 m14 => oB (AW.rd h wp 0) fun v15 => vStr v15 fun s16 => oB (AW.rd h wp 1) fun v17 => vInt .i64 v17 fun n18 => oB (AW.rd h wp 2) fun v19 => vInt .i64 v19 fun n20 => oB (AW.rd h wp 3) fun v21 => vBool v21 fun b22 => oB (AW.rd h wp 4) fun v23 => vBool v23 fun b24 =>
      oP (appendB P (AW.addVar h [.string s16, .int .i64 n18, .int .i64 n20, .bool b22, .bool b24]) ⟨[ty_sl_api_Word, ty_sl_api_Word]⟩ [.slice p12 m13 m14, .slice (some ⟨AW.next h, 0, none⟩) 1 1]) fun v25 h26 => vSl v25 fun p27 m28 m29 => oB (AW.wr h26 lp 2 (.slice p27 m28 m29)) fun h30 => K h30 := by
  refine w_rd O W 5 (j := 2) rfl rfl ?_
  simp only [oB_some, bC_true, bC_false, vInt_int, vBool_bool, vStr_string, vPtr_pointer, vSl_slice, vMap_map, vFun_func, vAgg_agg, vTup_tuple, vIfc_nil, vIfc_iface, lC_cons, lN_nil, aP_some, shO_none, shO_some, Option.isNone_none, Option.isNone_some, Bool.not_true, Bool.not_false]
  refine w_rd O W 0 (j := 0) rfl rfl ?_
  simp only [oB_some, bC_true, bC_false, vInt_int, vBool_bool, vStr_string, vPtr_pointer, vSl_slice, vMap_map, vFun_func, vAgg_agg, vTup_tuple, vIfc_nil, vIfc_iface, lC_cons, lN_nil, aP_some, shO_none, shO_some, Option.isNone_none, Option.isNone_some, Bool.not_true, Bool.not_false]
  refine w_rd O W 0 (j := 1) rfl rfl ?_
  simp only [oB_some, bC_true, bC_false, vInt_int, vBool_bool, vStr_string, vPtr_pointer, vSl_slice, vMap_map, vFun_func, vAgg_agg, vTup_tuple, vIfc_nil, vIfc_iface, lC_cons, lN_nil, aP_some, shO_none, shO_some, Option.isNone_none, Option.isNone_some, Bool.not_true, Bool.not_false]
  refine w_rd O W 0 (j := 2) rfl rfl ?_
  simp only [oB_some, bC_true, bC_false, vInt_int, vBool_bool, vStr_string, vPtr_pointer, vSl_slice, vMap_map, vFun_func, vAgg_agg, vTup_tuple, vIfc_nil, vIfc_iface, lC_cons, lN_nil, aP_some, shO_none, shO_some, Option.isNone_none, Option.isNone_some, Bool.not_true, Bool.not_false]
  refine w_rd O W 0 (j := 3) rfl rfl ?_
  simp only [oB_some, bC_true, bC_false, vInt_int, vBool_bool, vStr_string, vPtr_pointer, vSl_slice, vMap_map, vFun_func, vAgg_agg, vTup_tuple, vIfc_nil, vIfc_iface, lC_cons, lN_nil, aP_some, shO_none, shO_some, Option.isNone_none, Option.isNone_some, Bool.not_true, Bool.not_false]
  refine w_rd O W 0 (j := 4) rfl rfl ?_
  simp only [oB_some, bC_true, bC_false, vInt_int, vBool_bool, vStr_string, vPtr_pointer, vSl_slice, vMap_map, vFun_func, vAgg_agg, vTup_tuple, vIfc_nil, vIfc_iface, lC_cons, lN_nil, aP_some, shO_none, shO_some, Option.isNone_none, Option.isNone_some, Bool.not_true, Bool.not_false]
  obtain ⟨μ1, ρ1, c1, O1, W1, hc1⟩ := w_block O W w.cells (n := 1) (sz := 5) rfl rfl
  refine w_app (P := P) O1 W1 2 (n := ws.length) (m := 1) ti_ty_sl_api_Word ti_ty_api_Word (by decide) rfl (wx_len ws) (w_sl O1 W1 0 rfl) rfl rfl (by omega) (by omega) fun a' cap' h2 μ2 ρ2 O2 W2 => ?_
  simp only [oB_some, bC_true, bC_false, vInt_int, vBool_bool, vStr_string, vPtr_pointer, vSl_slice, vMap_map, vFun_func, vAgg_agg, vTup_tuple, vIfc_nil, vIfc_iface, lC_cons, lN_nil, aP_some, shO_none, shO_some, Option.isNone_none, Option.isNone_some, Bool.not_true, Bool.not_false]
  have W3 := (W2.tail hc1).tail hcw
  refine w_wr O2 W3 4 (j := 2) rfl (by simp) rfl fun h3 ρ3 O3 W4 => ?_
  refine H _ _ _ a' cap' O3 (W4.eq ?_)
  simp only [stX, List.flatMap_append, List.flatMap_cons, List.flatMap_nil, List.append_nil, List.length_append, List.length_cons, List.length_nil]
  rfl
/-- A line is laid behind the others. -/
theorem end_line (O : Own h μ ρ) {nw : Nat} {wa oa : Option Addr} {wc oc : Nat} {ws : List Wx} {outs : List Lx} {vs : List (Option Addr × Nat × Nat × List Value)} {ln co num : Int} (hl : outs.length ≤ 1000000) (h0 : ws ≠ [])
    (W : Pcs ρ0 ρ [nw, nm, nr, no, nl, nt] (stX wa oa wc oc ws outs vs rp op lp p T ln co num))
    (H : ∀ h' μ' ρ' oa' oc', Own h' μ' ρ' → Pcs ρ0 ρ' [nw, nm, nr, no, nl, nt] (((stX wa oa wc oc ws outs vs rp op lp p T ln co num).set 3 (.var op [.slice oa' (outs.length + 1) oc'])).set 5 (.sl oa' oc' 3 ((outs ++ [(⟨num, wa, wc, ws⟩ : Lx)]).flatMap Lx.cells))) → Q (.tuple ⟨[]⟩) h') :
    EvQ P f_p_lex_reader_lines_fn1 [.pointer (some ⟨lp, 0, none⟩), .pointer (some ⟨op, 0, none⟩)] h Q := by
  have hlen : 0 < ws.length := List.length_pos_iff.2 h0
  refine r_p_lex_reader_lines_fn1 ?_
  refine w_rd O W 4 (j := 2) rfl rfl ?_
  simp only [oB_some, bC_true, bC_false, vInt_int, vBool_bool, vStr_string, vPtr_pointer, vSl_slice, vMap_map, vFun_func, vAgg_agg, vTup_tuple, vIfc_nil, vIfc_iface, lC_cons, lN_nil, aP_some, shO_none, shO_some, Option.isNone_none, Option.isNone_some, Bool.not_true, Bool.not_false]
  rw [show decide ((ws.length : Int) > 0) = true from decide_eq_true (by omega)]
  simp only [oB_some, bC_true, bC_false, vInt_int, vBool_bool, vStr_string, vPtr_pointer, vSl_slice, vMap_map, vFun_func, vAgg_agg, vTup_tuple, vIfc_nil, vIfc_iface, lC_cons, lN_nil, aP_some, shO_none, shO_some, Option.isNone_none, Option.isNone_some, Bool.not_true, Bool.not_false]
  refine w_rd O W 3 (j := 0) rfl rfl ?_
  simp only [oB_some, bC_true, bC_false, vInt_int, vBool_bool, vStr_string, vPtr_pointer, vSl_slice, vMap_map, vFun_func, vAgg_agg, vTup_tuple, vIfc_nil, vIfc_iface, lC_cons, lN_nil, aP_some, shO_none, shO_some, Option.isNone_none, Option.isNone_some, Bool.not_true, Bool.not_false]
  refine w_rd O W 4 (j := 0) rfl rfl ?_
  simp only [oB_some, bC_true, bC_false, vInt_int, vBool_bool, vStr_string, vPtr_pointer, vSl_slice, vMap_map, vFun_func, vAgg_agg, vTup_tuple, vIfc_nil, vIfc_iface, lC_cons, lN_nil, aP_some, shO_none, shO_some, Option.isNone_none, Option.isNone_some, Bool.not_true, Bool.not_false]
  refine w_rd O W 4 (j := 1) rfl rfl ?_
  simp only [oB_some, bC_true, bC_false, vInt_int, vBool_bool, vStr_string, vPtr_pointer, vSl_slice, vMap_map, vFun_func, vAgg_agg, vTup_tuple, vIfc_nil, vIfc_iface, lC_cons, lN_nil, aP_some, shO_none, shO_some, Option.isNone_none, Option.isNone_some, Bool.not_true, Bool.not_false]
  refine w_rd O W 4 (j := 2) rfl rfl ?_
  simp only [oB_some, bC_true, bC_false, vInt_int, vBool_bool, vStr_string, vPtr_pointer, vSl_slice, vMap_map, vFun_func, vAgg_agg, vTup_tuple, vIfc_nil, vIfc_iface, lC_cons, lN_nil, aP_some, shO_none, shO_some, Option.isNone_none, Option.isNone_some, Bool.not_true, Bool.not_false]
  obtain ⟨μ1, ρ1, c1, O1, W1, hc1⟩ := w_block O W (Lx.cells ⟨num, wa, wc, ws⟩) (n := 1) (sz := 3) rfl rfl
  refine w_app (P := P) O1 W1 6 (n := outs.length) (m := 1) ti_ty_sl_api_Line ti_ty_api_Line (by decide) rfl (lx_len outs) (w_sl O1 W1 0 rfl) rfl rfl (by omega) (by omega) fun a' cap' h2 μ2 ρ2 O2 W2 => ?_
  simp only [oB_some, bC_true, bC_false, vInt_int, vBool_bool, vStr_string, vPtr_pointer, vSl_slice, vMap_map, vFun_func, vAgg_agg, vTup_tuple, vIfc_nil, vIfc_iface, lC_cons, lN_nil, aP_some, shO_none, shO_some, Option.isNone_none, Option.isNone_some, Bool.not_true, Bool.not_false]
  have W3 := W2.tail hc1
  refine w_wr O2 W3 3 (j := 0) rfl (by simp) rfl fun h3 ρ3 O3 W4 => ?_
  refine H _ _ _ a' cap' O3 (W4.eq ?_)
  simp only [stX, List.flatMap_append, List.flatMap_cons, List.flatMap_nil, List.append_nil]
  rfl
end
end Go.Proofs.YtgdkekdedgkglaaDoor
end

section
/- The reader's loop: one thing after the other. -/
namespace Go.Proofs.YtgdkekdedgkglaaDoor
open Go.Abs Go.Abs.Fo
set_option maxRecDepth 100000
attribute [local irreducible] unitAt EvQ
variable {h : AW} {μ : Paint} {ρ0 ρ : Store} {Q : Value → AW → Prop}
variable {nm nr no nl nt rp op lp p : Nat} {T : Str} {b : Bool} {wt : List Str} {ot : List Line}
abbrev wz0 : List Value := [.string ⟨#[]⟩, .int .i64 0, .int .i64 0, .bool false, .bool false]
theorem head5 (O : Own h μ ρ) {nw : Nat} {wa oa : Option Addr} {wc oc : Nat} {ws : List Wx} {outs : List Lx} {vs : List (Option Addr × Nat × Nat × List Value)} {ln co num : Int} (hT : T.size ≤ 1000000) {c : UInt8} {r : List UInt8} (hd : T.data.toList.drop p = c :: r) (hj : c = 92 → r.head? ≠ some 10)
    (W : Pcs ρ0 ρ [nw, nm, nr, no, nl, nt] (stX wa oa wc oc ws outs vs rp op lp p T ln co num)) {K : Int → Int → AW → AW → Prop} {E : AW → Prop}
    (H : ∀ h8 h' μ' ρ' cw l1 c1 ln' co', Own h' μ' ρ' → ρ0 cw = none → Pcs ρ0 ρ' (cw :: [nw, nm, nr, no, nl, nt]) (.var (AW.next h8) [.string ⟨#[]⟩, .int .i64 l1, .int .i64 c1, .bool false, .bool false] :: stX wa oa wc oc ws outs vs rp op lp (p + 1) T ln' co' num) → K (c.toNat : Int) (p : Int) h8 h') :
    EvQ P f_p_lex_reader_peek [.pointer (some ⟨rp, 0, none⟩)] h fun v7 h8 => vTup v7 fun l9 => lC l9 fun v10 l11 => vInt .u8 v10 fun n12 => lC l11 fun v13 l14 => vInt .i64 v13 fun n15 => lN l14 (bC (n15 == 0) (E h8)
      (aP (some ⟨rp, 0, none⟩) fun m22 m23 => oB (AW.rd h8 m22 (m23 + 1)) fun v24 => vInt .i64 v24 fun n25 => aP (some ⟨rp, 0, none⟩) fun m26 m27 => oB (AW.rd h8 m26 (m27 + 2)) fun v28 => vInt .i64 v28 fun n29 => aP (some ⟨rp, 0, none⟩) fun m30 m31 => oB (AW.rd h8 m30 (m31 + 3)) fun v32 => vInt .i64 v32 fun n33 =>
        oB (AW.wrL (AW.addVar h8 wz0) (AW.next h8) 0 [.string ⟨#[]⟩, .int .i64 n29, .int .i64 n33, .bool false, .bool false]) fun h34 => oB (AW.rd (AW.addVar h8 wz0) m26 (m27 + 2)) fun v35 => vInt .i64 v35 fun n36 => Value.int .i64 n36 = Value.int .i64 n29 ∧
          oB (AW.rd (AW.addVar h8 wz0) m30 (m31 + 3)) fun v37 => vInt .i64 v37 fun n38 => Value.int .i64 n38 = Value.int .i64 n33 ∧ EvQ P f_p_lex_reader_next [.pointer (some ⟨rp, 0, none⟩)] h34 fun v39 h40 => K n12 n25 h8 h40)) := by
  refine peek_ok O W 2 rfl hd hj ?_
  simp only [oB_some, bC_true, bC_false, vInt_int, vBool_bool, vStr_string, vPtr_pointer, vSl_slice, vMap_map, vFun_func, vAgg_agg, vTup_tuple, vIfc_nil, vIfc_iface, lC_cons, lN_nil, aP_some, shO_none, shO_some, Option.isNone_none, Option.isNone_some, Bool.not_true, Bool.not_false]
  rw [show ((1 : Int) == 0) = false from rfl]
  simp only [oB_some, bC_true, bC_false, vInt_int, vBool_bool, vStr_string, vPtr_pointer, vSl_slice, vMap_map, vFun_func, vAgg_agg, vTup_tuple, vIfc_nil, vIfc_iface, lC_cons, lN_nil, aP_some, shO_none, shO_some, Option.isNone_none, Option.isNone_some, Bool.not_true, Bool.not_false]
  refine w_rd O W 2 (j := 1) rfl rfl ?_
  simp only [oB_some, bC_true, bC_false, vInt_int, vBool_bool, vStr_string, vPtr_pointer, vSl_slice, vMap_map, vFun_func, vAgg_agg, vTup_tuple, vIfc_nil, vIfc_iface, lC_cons, lN_nil, aP_some, shO_none, shO_some, Option.isNone_none, Option.isNone_some, Bool.not_true, Bool.not_false]
  refine w_rd O W 2 (j := 2) rfl rfl ?_
  simp only [oB_some, bC_true, bC_false, vInt_int, vBool_bool, vStr_string, vPtr_pointer, vSl_slice, vMap_map, vFun_func, vAgg_agg, vTup_tuple, vIfc_nil, vIfc_iface, lC_cons, lN_nil, aP_some, shO_none, shO_some, Option.isNone_none, Option.isNone_some, Bool.not_true, Bool.not_false]
  refine w_rd O W 2 (j := 3) rfl rfl ?_
  simp only [oB_some, bC_true, bC_false, vInt_int, vBool_bool, vStr_string, vPtr_pointer, vSl_slice, vMap_map, vFun_func, vAgg_agg, vTup_tuple, vIfc_nil, vIfc_iface, lC_cons, lN_nil, aP_some, shO_none, shO_some, Option.isNone_none, Option.isNone_some, Bool.not_true, Bool.not_false]
  obtain ⟨μ1, ρ1, cw, O1, W1, hcw⟩ := w_new O W wz0
  refine w_wrL O1 W1 0 (j := 0) rfl (by simp) rfl fun h2 ρ2 O2 W2 => ?_
  refine w_rd O1 W1 3 (j := 2) rfl rfl ?_
  simp only [oB_some, bC_true, bC_false, vInt_int, vBool_bool, vStr_string, vPtr_pointer, vSl_slice, vMap_map, vFun_func, vAgg_agg, vTup_tuple, vIfc_nil, vIfc_iface, lC_cons, lN_nil, aP_some, shO_none, shO_some, Option.isNone_none, Option.isNone_some, Bool.not_true, Bool.not_false]
  refine ⟨trivial, ?_⟩
  refine w_rd O1 W1 3 (j := 3) rfl rfl ?_
  simp only [oB_some, bC_true, bC_false, vInt_int, vBool_bool, vStr_string, vPtr_pointer, vSl_slice, vMap_map, vFun_func, vAgg_agg, vTup_tuple, vIfc_nil, vIfc_iface, lC_cons, lN_nil, aP_some, shO_none, shO_some, Option.isNone_none, Option.isNone_some, Bool.not_true, Bool.not_false]
  refine ⟨trivial, ?_⟩
  refine next_ok O2 W2 3 hT rfl hd hj fun h3 ρ3 ln' co' O3 W3 => ?_
  exact H h _ _ _ cw ln co ln' co' O3 hcw W3
theorem at5_blank (hT : T.size ≤ 1000000) {r : List UInt8} (hd : T.data.toList.drop p = 32 :: r) (H : At5 Q ρ0 nm nr no nl nt T rp op lp false (p + 1) wt ot) : At5 Q ρ0 nm nr no nl nt T rp op lp b p wt ot := by
  intro h μ ρ nw wa oa wc oc ws outs vs ln co num O hn W e1 e2 hv
  refine r_p_lex_reader_lines_5 ?_
  refine head5 O hT hd (fun x => absurd x (by decide)) W fun h8 h' μ' ρ' cw l1 c1 ln' co' O' hcw W' => ?_
  rw [show (((32 : UInt8).toNat : Int) == 10) = false from rfl, show (((32 : UInt8).toNat : Int) == 32) = true from rfl]
  simp only [oB_some, bC_true, bC_false, vInt_int, vBool_bool, vStr_string, vPtr_pointer, vSl_slice, vMap_map, vFun_func, vAgg_agg, vTup_tuple, vIfc_nil, vIfc_iface, lC_cons, lN_nil, aP_some, shO_none, shO_some, Option.isNone_none, Option.isNone_some, Bool.not_true, Bool.not_false]
  exact H O' hn (W'.tail hcw) e1 e2 hv
theorem at5_nl (hT : T.size ≤ 1000000) (hol : ot.length ≤ 1000000) {r : List UInt8} (hd : T.data.toList.drop p = 10 :: r) (h0 : wt ≠ []) (H : At5 Q ρ0 nm nr no nl nt T rp op lp true (p + 1) [] (ot ++ [wt])) : At5 Q ρ0 nm nr no nl nt T rp op lp b p wt ot := by
  intro h μ ρ nw wa oa wc oc ws outs vs ln co num O hn W e1 e2 hv
  refine r_p_lex_reader_lines_5 ?_
  refine head5 O hT hd (fun x => absurd x (by decide)) W fun h8 h' μ' ρ' cw l1 c1 ln' co' O' hcw W' => ?_
  rw [show (((10 : UInt8).toNat : Int) == 10) = true from rfl]
  simp only [oB_some, bC_true, bC_false, vInt_int, vBool_bool, vStr_string, vPtr_pointer, vSl_slice, vMap_map, vFun_func, vAgg_agg, vTup_tuple, vIfc_nil, vIfc_iface, lC_cons, lN_nil, aP_some, shO_none, shO_some, Option.isNone_none, Option.isNone_some, Bool.not_true, Bool.not_false]
  have hout : outs.length ≤ 1000000 := by rw [← e2, List.length_map] at hol; exact hol
  refine end_line O' hout (fun x => h0 (by rw [← e1, x]; rfl)) (W'.tail hcw) fun h2 μ2 ρ2 oa' oc' O2 W2 => ?_
  refine w_rd O2 W2 2 (j := 2) rfl rfl ?_
  simp only [oB_some, bC_true, bC_false, vInt_int, vBool_bool, vStr_string, vPtr_pointer, vSl_slice, vMap_map, vFun_func, vAgg_agg, vTup_tuple, vIfc_nil, vIfc_iface, lC_cons, lN_nil, aP_some, shO_none, shO_some, Option.isNone_none, Option.isNone_some, Bool.not_true, Bool.not_false]
  refine w_wrL O2 W2 4 (j := 0) rfl (by simp) rfl fun h3 ρ3 O3 W3 => ?_
  obtain ⟨μ4, ρ4, O4, W4⟩ := w_into O3 W3 hn 0 rfl
  obtain ⟨ρ5, cn, O5, W5, hcn⟩ := w_nil O4 W4 5
  have W5 : Pcs ρ0 ρ5 [cn, nm, nr, no, nl, nt] (stX none oa' 0 oc' [] (outs ++ [⟨num, wa, wc, ws⟩]) ((wa, wc, 5, ws.flatMap Wx.cells) :: vs) rp op lp (p + 1) T ln' co' ln') := W5.eq (by
    simp only [stX, List.length_append, List.length_cons, List.length_nil]; rfl)
  refine H O5 hcn W5 rfl (by rw [List.map_append, e2]; simp [e1]) fun l hl => ?_
  rcases List.mem_append.1 hl with x | x
  · obtain ⟨cap, y⟩ := hv l x
    exact ⟨cap, by simp [y]⟩
  · simp at x
    subst x
    exact ⟨wc, by simp⟩
theorem bare_ne {c : UInt8} (hb : bareN c.toNat = true) {m : Nat} (hm : m = 10 ∨ m = 32 ∨ m = 9 ∨ m = 35 ∨ m = 58 ∨ m = 61 ∨ m = 34 ∨ m = 92) : ((c.toNat : Int) == (m : Int)) = false := by
  unfold bareN at hb
  simp only [Bool.and_eq_true, Bool.not_eq_true', beq_eq_false_iff_ne, decide_eq_true_eq] at hb
  rw [beq_eq_false_iff_ne]
  omega
theorem bare_92 {c : UInt8} (hb : bareN c.toNat = true) : c ≠ 92 := fun e => by subst e; simp [bareN] at hb
theorem sub_word {w : Str} {d : UInt8} {r : List UInt8} {p0 p1 : Nat} (hd : T.data.toList.drop p0 = w.data.toList ++ d :: r) (hp : p1 = p0 + w.size) : bSub T p0 p1 = w := by
  have hs : w.size = w.data.toList.length := rfl
  unfold bSub
  rw [hd, hp, show p0 + w.size - p0 = w.data.toList.length from by omega, List.take_left]
theorem plain37 (hT : T.size ≤ 1000000) {w : Str} {p0 : Nat} {d : UInt8} {r : List UInt8} (hwl : wt.length ≤ 1000000) (hd0 : T.data.toList.drop p0 = w.data.toList ++ d :: r) (hdn : bareN d.toNat = false) (hd92 : d ≠ 92)
    (H : At5 Q ρ0 nm nr no nl nt T rp op lp false (p0 + w.size) (wt ++ [w]) ot) :
    ∀ (x : List UInt8) {h : AW} {μ : Paint} {ρ : Store} {p cw nw wp : Nat} {wa oa : Option Addr} {wc oc : Nat} {ws : List Wx} {outs : List Lx} {vs : List (Option Addr × Nat × Nat × List Value)} {ln co num l1 c1 : Int} {s0 : Str} {c : UInt8} {y : List UInt8}, T.data.toList.drop p = x ++ d :: r → p + x.length = p0 + w.size → p0 ≤ p → (∀ z, z ∈ x → bareN z.toNat = true) → x ++ d :: r = c :: y →
      Own h μ ρ → ρ0 nw = none → ρ0 cw = none → Pcs ρ0 ρ (cw :: [nw, nm, nr, no, nl, nt]) (.var wp [.string s0, .int .i64 l1, .int .i64 c1, .bool false, .bool false] :: stX wa oa wc oc ws outs vs rp op lp p T ln co num) → ws.map Wx.t = wt → outs.map (fun l => l.ws.map Wx.t) = ot → OutsOk vs outs →
      unitAt P f_p_lex_reader_lines 37 [0, 3, 4, 5, 6, 9, 10, 14, 15] (uL rp op lp false ++ [.int .i64 (p0 : Int), .pointer (some ⟨wp, 0, none⟩), .int .u8 (c.toNat : Int), .int .i64 1]) h Q
  | [], h, μ, ρ, p, cw, nw, wp, wa, oa, wc, oc, ws, outs, vs, ln, co, num, l1, c1, s0, c, y, hd, hp, hle, hb, hcy, O, hn, hcw, W, e1, e2, hv => by
    simp only [List.nil_append, List.length_nil] at hd hp hcy
    obtain ⟨rfl, rfl⟩ := List.cons.inj hcy
    refine r_p_lex_reader_lines_37 ?_
    rw [show ((1 : Int) == 1) = true from rfl]
    simp only [oB_some, bC_true, bC_false, vInt_int, vBool_bool, vStr_string, vPtr_pointer, vSl_slice, vMap_map, vFun_func, vAgg_agg, vTup_tuple, vIfc_nil, vIfc_iface, lC_cons, lN_nil, aP_some, shO_none, shO_some, Option.isNone_none, Option.isNone_some, Bool.not_true, Bool.not_false]
    refine bare_ok ?_
    rw [hdn]
    simp only [oB_some, bC_true, bC_false, vInt_int, vBool_bool, vStr_string, vPtr_pointer, vSl_slice, vMap_map, vFun_func, vAgg_agg, vTup_tuple, vIfc_nil, vIfc_iface, lC_cons, lN_nil, aP_some, shO_none, shO_some, Option.isNone_none, Option.isNone_some, Bool.not_true, Bool.not_false]
    refine w_rd O W 3 (j := 0) rfl rfl ?_
    simp only [oB_some, bC_true, bC_false, vInt_int, vBool_bool, vStr_string, vPtr_pointer, vSl_slice, vMap_map, vFun_func, vAgg_agg, vTup_tuple, vIfc_nil, vIfc_iface, lC_cons, lN_nil, aP_some, shO_none, shO_some, Option.isNone_none, Option.isNone_some, Bool.not_true, Bool.not_false]
    refine w_rd O W 3 (j := 1) rfl rfl ?_
    simp only [oB_some, bC_true, bC_false, vInt_int, vBool_bool, vStr_string, vPtr_pointer, vSl_slice, vMap_map, vFun_func, vAgg_agg, vTup_tuple, vIfc_nil, vIfc_iface, lC_cons, lN_nil, aP_some, shO_none, shO_some, Option.isNone_none, Option.isNone_some, Bool.not_true, Bool.not_false]
    obtain ⟨hlt, _⟩ := drop_lt hd
    have hlt : p < T.size := hlt
    rw [natBnd_eq (by omega)]
    simp only [oB_some, bC_true, bC_false, vInt_int, vBool_bool, vStr_string, vPtr_pointer, vSl_slice, vMap_map, vFun_func, vAgg_agg, vTup_tuple, vIfc_nil, vIfc_iface, lC_cons, lN_nil, aP_some, shO_none, shO_some, Option.isNone_none, Option.isNone_some, Bool.not_true, Bool.not_false]
    rw [natBnd_eq hle]
    simp only [oB_some, bC_true, bC_false, vInt_int, vBool_bool, vStr_string, vPtr_pointer, vSl_slice, vMap_map, vFun_func, vAgg_agg, vTup_tuple, vIfc_nil, vIfc_iface, lC_cons, lN_nil, aP_some, shO_none, shO_some, Option.isNone_none, Option.isNone_some, Bool.not_true, Bool.not_false]
    rw [sub_word hd0 (by omega)]
    refine w_wr O W 0 (j := 0) rfl (by simp) rfl fun h2 ρ2 O2 W2 => ?_
    have hwl' : ws.length ≤ 1000000 := by rw [← e1, List.length_map] at hwl; exact hwl
    refine push_word (w := ⟨w, l1, c1, false⟩) O2 hcw hwl' W2 fun h3 μ3 ρ3 wa' wc' O3 W3 => ?_
    rw [show p = p0 + w.size from by omega] at W3
    exact H O3 hn W3 (by rw [List.map_append, e1]; rfl) e2 hv
  | c' :: x, h, μ, ρ, p, cw, nw, wp, wa, oa, wc, oc, ws, outs, vs, ln, co, num, l1, c1, s0, c, y, hd, hp, hle, hb, hcy, O, hn, hcw, W, e1, e2, hv => by
    rw [List.cons_append] at hd hcy
    obtain ⟨rfl, rfl⟩ := List.cons.inj hcy
    have hbc := hb _ (List.mem_cons_self ..)
    have hj : c' = 92 → (x ++ d :: r).head? ≠ some 10 := fun e => absurd e (bare_92 hbc)
    simp only [List.length_cons] at hp
    refine r_p_lex_reader_lines_37 ?_
    rw [show ((1 : Int) == 1) = true from rfl]
    simp only [oB_some, bC_true, bC_false, vInt_int, vBool_bool, vStr_string, vPtr_pointer, vSl_slice, vMap_map, vFun_func, vAgg_agg, vTup_tuple, vIfc_nil, vIfc_iface, lC_cons, lN_nil, aP_some, shO_none, shO_some, Option.isNone_none, Option.isNone_some, Bool.not_true, Bool.not_false]
    refine bare_ok ?_
    rw [hbc]
    simp only [oB_some, bC_true, bC_false, vInt_int, vBool_bool, vStr_string, vPtr_pointer, vSl_slice, vMap_map, vFun_func, vAgg_agg, vTup_tuple, vIfc_nil, vIfc_iface, lC_cons, lN_nil, aP_some, shO_none, shO_some, Option.isNone_none, Option.isNone_some, Bool.not_true, Bool.not_false]
    refine next_ok O W 3 hT rfl hd hj fun h2 ρ2 ln2 co2 O2 W2 => ?_
    have hd2 := drop_next hd
    have W2 : Pcs ρ0 ρ2 (cw :: [nw, nm, nr, no, nl, nt]) (.var wp [.string s0, .int .i64 l1, .int .i64 c1, .bool false, .bool false] :: stX wa oa wc oc ws outs vs rp op lp (p + 1) T ln2 co2 num) := W2
    obtain ⟨c2, y2, e3⟩ : ∃ c2 y2, x ++ d :: r = c2 :: y2 := by
      cases x with
      | nil => exact ⟨d, r, rfl⟩
      | cons a x => exact ⟨a, x ++ d :: r, rfl⟩
    have hd3 := hd2
    rw [e3] at hd3
    have hj2 : c2 = 92 → y2.head? ≠ some 10 := by
      cases x with
      | nil =>
        obtain ⟨rfl, rfl⟩ := List.cons.inj e3
        exact fun e => absurd e hd92
      | cons a x =>
        obtain ⟨rfl, rfl⟩ := List.cons.inj e3
        exact fun e => absurd e (bare_92 (hb _ (by simp)))
    refine peek_ok O2 W2 3 rfl hd3 hj2 ?_
    simp only [oB_some, bC_true, bC_false, vInt_int, vBool_bool, vStr_string, vPtr_pointer, vSl_slice, vMap_map, vFun_func, vAgg_agg, vTup_tuple, vIfc_nil, vIfc_iface, lC_cons, lN_nil, aP_some, shO_none, shO_some, Option.isNone_none, Option.isNone_some, Bool.not_true, Bool.not_false]
    exact plain37 hT hwl hd0 hdn hd92 H x hd2 (by omega) (by omega) (fun z hz => hb z (by simp [hz])) e3 O2 hn hcw W2 e1 e2 hv
/-- A word without quotes. -/
theorem at5_plain (hT : T.size ≤ 1000000) {w : Str} {d : UInt8} {r : List UInt8} (hwl : wt.length ≤ 1000000) (hpl : plainL w.data.toList = true) (hd : T.data.toList.drop p = w.data.toList ++ d :: r) (hdn : bareN d.toNat = false) (hd92 : d ≠ 92)
    (H : At5 Q ρ0 nm nr no nl nt T rp op lp false (p + w.size) (wt ++ [w]) ot) : At5 Q ρ0 nm nr no nl nt T rp op lp b p wt ot := by
  intro h μ ρ nw wa oa wc oc ws outs vs ln co num O hn W e1 e2 hv
  have hs : w.size = w.data.toList.length := rfl
  unfold plainL at hpl
  simp only [Bool.and_eq_true, List.all_eq_true, Bool.not_eq_true', List.isEmpty_eq_false_iff] at hpl
  obtain ⟨hb, hne⟩ := hpl
  obtain ⟨c, x, ex⟩ := List.exists_cons_of_ne_nil hne
  have hd1 := hd
  rw [ex, List.cons_append] at hd1
  have hbc := hb c (by rw [ex]; simp)
  have hj : c = 92 → (x ++ d :: r).head? ≠ some 10 := fun e => absurd e (bare_92 hbc)
  have hxl : w.size = x.length + 1 := by rw [hs, ex]; rfl
  refine r_p_lex_reader_lines_5 ?_
  refine head5 O hT hd1 hj W fun h8 h' μ' ρ' cw l1 c1 ln' co' O' hcw W' => ?_
  have n : ∀ {m : Nat}, (m = 10 ∨ m = 32 ∨ m = 9 ∨ m = 35 ∨ m = 58 ∨ m = 61 ∨ m = 34 ∨ m = 92) → ((c.toNat : Int) == (m : Int)) = false := fun hm => bare_ne hbc hm
  rw [show ((c.toNat : Int) == 10) = false from n (m := 10) (by simp), show ((c.toNat : Int) == 32) = false from n (m := 32) (by simp), show ((c.toNat : Int) == 9) = false from n (m := 9) (by simp), show ((c.toNat : Int) == 35) = false from n (m := 35) (by simp), show ((c.toNat : Int) == 58) = false from n (m := 58) (by simp), show ((c.toNat : Int) == 61) = false from n (m := 61) (by simp), show ((c.toNat : Int) == 34) = false from n (m := 34) (by simp)]
  simp only [oB_some, bC_true, bC_false, vInt_int, vBool_bool, vStr_string, vPtr_pointer, vSl_slice, vMap_map, vFun_func, vAgg_agg, vTup_tuple, vIfc_nil, vIfc_iface, lC_cons, lN_nil, aP_some, shO_none, shO_some, Option.isNone_none, Option.isNone_some, Bool.not_true, Bool.not_false]
  refine bare_ok ?_
  rw [hbc]
  simp only [oB_some, bC_true, bC_false, vInt_int, vBool_bool, vStr_string, vPtr_pointer, vSl_slice, vMap_map, vFun_func, vAgg_agg, vTup_tuple, vIfc_nil, vIfc_iface, lC_cons, lN_nil, aP_some, shO_none, shO_some, Option.isNone_none, Option.isNone_some, Bool.not_true, Bool.not_false]
  refine r_p_lex_reader_lines_30 ?_
  rw [show ((c.toNat : Int) == 58) = false from n (m := 58) (by simp), show ((c.toNat : Int) == 61) = false from n (m := 61) (by simp), show ((c.toNat : Int) == 34) = false from n (m := 34) (by simp)]
  simp only [oB_some, bC_true, bC_false, vInt_int, vBool_bool, vStr_string, vPtr_pointer, vSl_slice, vMap_map, vFun_func, vAgg_agg, vTup_tuple, vIfc_nil, vIfc_iface, lC_cons, lN_nil, aP_some, shO_none, shO_some, Option.isNone_none, Option.isNone_some, Bool.not_true, Bool.not_false]
  have hd2 := drop_next hd1
  obtain ⟨c2, y2, e3⟩ : ∃ c2 y2, x ++ d :: r = c2 :: y2 := by
    cases x with
    | nil => exact ⟨d, r, rfl⟩
    | cons a x => exact ⟨a, x ++ d :: r, rfl⟩
  have hd3 := hd2
  rw [e3] at hd3
  have hj2 : c2 = 92 → y2.head? ≠ some 10 := by
    cases x with
    | nil =>
      obtain ⟨rfl, rfl⟩ := List.cons.inj e3
      exact fun e => absurd e hd92
    | cons a x =>
      obtain ⟨rfl, rfl⟩ := List.cons.inj e3
      exact fun e => absurd e (bare_92 (hb _ (by rw [ex]; simp)))
  refine peek_ok O' W' 3 rfl hd3 hj2 ?_
  simp only [oB_some, bC_true, bC_false, vInt_int, vBool_bool, vStr_string, vPtr_pointer, vSl_slice, vMap_map, vFun_func, vAgg_agg, vTup_tuple, vIfc_nil, vIfc_iface, lC_cons, lN_nil, aP_some, shO_none, shO_some, Option.isNone_none, Option.isNone_some, Bool.not_true, Bool.not_false]
  exact plain37 hT hwl hd hdn hd92 H x hd2 (by omega) (by omega) (fun z hz => hb z (by rw [ex]; simp [hz])) e3 O' hn hcw W' e1 e2 hv
/-- A word in quotes. -/
theorem at5_quote (hT : T.size ≤ 1000000) {w : Str} {r : List UInt8} (hwl : wt.length ≤ 1000000) (hd : T.data.toList.drop p = quoteL w.data.toList ++ r)
    (H : At5 Q ρ0 nm nr no nl nt T rp op lp false (p + (quoteL w.data.toList).length) (wt ++ [w]) ot) : At5 Q ρ0 nm nr no nl nt T rp op lp b p wt ot := by
  intro h μ ρ nw wa oa wc oc ws outs vs ln co num O hn W e1 e2 hv
  have hd1 : T.data.toList.drop p = 34 :: (w.data.toList.flatMap escL ++ 34 :: r) := by rw [hd]; simp [quoteL]
  have hql : (quoteL w.data.toList).length = (w.data.toList.flatMap escL).length + 2 := by simp [quoteL]
  have hwz : w.data.toList.length ≤ 1000000 := by
    have h1 := congrArg List.length hd
    have h2 : T.size = T.data.toList.length := rfl
    have h3 : w.data.toList.length ≤ (w.data.toList.flatMap escL).length := by
      generalize w.data.toList = l
      induction l with
      | nil => simp
      | cons c l ih =>
        have : 1 ≤ (escL c).length := by
          unfold escL
          repeat' split
          all_goals simp
        simp only [List.flatMap_cons, List.length_append, List.length_cons]; omega
    rw [List.length_drop, List.length_append, hql] at h1
    omega
  refine r_p_lex_reader_lines_5 ?_
  refine head5 O hT hd1 (fun e => absurd e (by decide)) W fun h8 h' μ' ρ' cw l1 c1 ln' co' O' hcw W' => ?_
  rw [show (((34 : UInt8).toNat : Int) == 10) = false from rfl, show (((34 : UInt8).toNat : Int) == 32) = false from rfl, show (((34 : UInt8).toNat : Int) == 9) = false from rfl, show (((34 : UInt8).toNat : Int) == 35) = false from rfl, show (((34 : UInt8).toNat : Int) == 58) = false from rfl, show (((34 : UInt8).toNat : Int) == 61) = false from rfl, show (((34 : UInt8).toNat : Int) == 34) = true from rfl]
  simp only [oB_some, bC_true, bC_false, vInt_int, vBool_bool, vStr_string, vPtr_pointer, vSl_slice, vMap_map, vFun_func, vAgg_agg, vTup_tuple, vIfc_nil, vIfc_iface, lC_cons, lN_nil, aP_some, shO_none, shO_some, Option.isNone_none, Option.isNone_some, Bool.not_true, Bool.not_false]
  refine r_p_lex_reader_lines_30 ?_
  rw [show (((34 : UInt8).toNat : Int) == 34) = true from rfl]
  simp only [oB_some, bC_true, bC_false, vInt_int, vBool_bool, vStr_string, vPtr_pointer, vSl_slice, vMap_map, vFun_func, vAgg_agg, vTup_tuple, vIfc_nil, vIfc_iface, lC_cons, lN_nil, aP_some, shO_none, shO_some, Option.isNone_none, Option.isNone_some, Bool.not_true, Bool.not_false]
  have hd2 := drop_next hd1
  refine quoted_ok O' W' 3 hT rfl hd2 hwz fun h2 μ2 ρ2 ln2 co2 O2 W2 => ?_
  simp only [oB_some, bC_true, bC_false, vInt_int, vBool_bool, vStr_string, vPtr_pointer, vSl_slice, vMap_map, vFun_func, vAgg_agg, vTup_tuple, vIfc_nil, vIfc_iface, lC_cons, lN_nil, aP_some, shO_none, shO_some, Option.isNone_none, Option.isNone_some, Bool.not_true, Bool.not_false]
  refine w_wr O2 W2 0 (j := 0) rfl (by simp) rfl fun h3 ρ3 O3 W3 => ?_
  refine w_wr O3 W3 0 (j := 3) rfl (by simp) rfl fun h4 ρ4 O4 W4 => ?_
  have hwl' : ws.length ≤ 1000000 := by rw [← e1, List.length_map] at hwl; exact hwl
  refine push_word (w := ⟨w, l1, c1, true⟩) O4 hcw hwl' W4 fun h5 μ5 ρ5 wa' wc' O5 W5 => ?_
  rw [show p + 1 + (w.data.toList.flatMap escL).length + 1 = p + (quoteL w.data.toList).length from by omega] at W5
  exact H O5 hn W5 (by rw [List.map_append, e1]; rfl) e2 hv
/-- The end. -/
theorem at5_end (H : ∀ h' μ' ρ' nw wa oa wc oc ws outs vs ln co num, Own h' μ' ρ' → ρ0 nw = none → Pcs ρ0 ρ' [nw, nm, nr, no, nl, nt] (stX wa oa wc oc ws outs vs rp op lp T.size T ln co num) → outs.map (fun l => l.ws.map Wx.t) = ot → OutsOk vs outs → Q (.slice oa outs.length oc) h') :
    At5 Q ρ0 nm nr no nl nt T rp op lp b T.size [] ot := by
  intro h μ ρ nw wa oa wc oc ws outs vs ln co num O hn W e1 e2 hv
  have hw : ws = [] := by simpa using e1
  subst hw
  refine r_p_lex_reader_lines_5 ?_
  refine peek_end O W 2 rfl ?_
  simp only [oB_some, bC_true, bC_false, vInt_int, vBool_bool, vStr_string, vPtr_pointer, vSl_slice, vMap_map, vFun_func, vAgg_agg, vTup_tuple, vIfc_nil, vIfc_iface, lC_cons, lN_nil, aP_some, shO_none, shO_some, Option.isNone_none, Option.isNone_some, Bool.not_true, Bool.not_false]
  rw [show ((0 : Int) == 0) = true from rfl]
  simp only [oB_some, bC_true, bC_false, vInt_int, vBool_bool, vStr_string, vPtr_pointer, vSl_slice, vMap_map, vFun_func, vAgg_agg, vTup_tuple, vIfc_nil, vIfc_iface, lC_cons, lN_nil, aP_some, shO_none, shO_some, Option.isNone_none, Option.isNone_some, Bool.not_true, Bool.not_false]
  refine r_p_lex_reader_lines_fn1 ?_
  refine w_rd O W 4 (j := 2) rfl rfl ?_
  simp only [oB_some, bC_true, bC_false, vInt_int, vBool_bool, vStr_string, vPtr_pointer, vSl_slice, vMap_map, vFun_func, vAgg_agg, vTup_tuple, vIfc_nil, vIfc_iface, lC_cons, lN_nil, aP_some, shO_none, shO_some, Option.isNone_none, Option.isNone_some, Bool.not_true, Bool.not_false]
  rw [show decide (((([] : List Wx).length : Nat) : Int) > 0) = false from rfl]
  simp only [oB_some, bC_true, bC_false, vInt_int, vBool_bool, vStr_string, vPtr_pointer, vSl_slice, vMap_map, vFun_func, vAgg_agg, vTup_tuple, vIfc_nil, vIfc_iface, lC_cons, lN_nil, aP_some, shO_none, shO_some, Option.isNone_none, Option.isNone_some, Bool.not_true, Bool.not_false]
  refine w_rd O W 3 (j := 0) rfl rfl ?_
  simp only [oB_some, bC_true, bC_false, vInt_int, vBool_bool, vStr_string, vPtr_pointer, vSl_slice, vMap_map, vFun_func, vAgg_agg, vTup_tuple, vIfc_nil, vIfc_iface, lC_cons, lN_nil, aP_some, shO_none, shO_some, Option.isNone_none, Option.isNone_some, Bool.not_true, Bool.not_false]
  exact H _ _ _ _ _ _ _ _ _ _ _ _ _ _ O hn W e2 hv
end Go.Proofs.YtgdkekdedgkglaaDoor
end

section
/- Texts of lines are read as the lines. -/
namespace Go.Proofs.YtgdkekdedgkglaaDoor
open Go.Abs Go.Abs.Fo
set_option maxRecDepth 100000
attribute [local irreducible] unitAt EvQ
variable {h : AW} {μ : Paint} {ρ0 ρ : Store} {Q : Value → AW → Prop}
variable {nm nr no nl nt rp op lp p : Nat} {T : Str} {b : Bool} {wt : List Str} {ot : List Line}
theorem at5_show (hT : T.size ≤ 1000000) {w : Str} {d : UInt8} {r : List UInt8} (hwl : wt.length ≤ 1000000) (hd : T.data.toList.drop p = showL w.data.toList ++ d :: r) (hdd : d = 32 ∨ d = 10)
    (H : At5 Q ρ0 nm nr no nl nt T rp op lp false (p + (showL w.data.toList).length) (wt ++ [w]) ot) : At5 Q ρ0 nm nr no nl nt T rp op lp b p wt ot := by
  unfold showL at hd H
  by_cases hp : plainL w.data.toList = true
  · rw [if_pos hp] at hd H
    exact at5_plain hT hwl hp hd (by rcases hdd with rfl | rfl <;> rfl) (by rcases hdd with rfl | rfl <;> decide) H
  · rw [if_neg hp] at hd H
    exact at5_quote hT hwl hd H
theorem jn_head : ∀ (ws : List Str) (r : List UInt8), ∃ d y, jn false ws ++ 10 :: r = d :: y ∧ (d = 32 ∨ d = 10)
  | [], r => ⟨10, r, rfl, .inr rfl⟩
  | w :: ws, r => ⟨32, _, rfl, .inl rfl⟩
theorem drop_add {L x y : List UInt8} {p : Nat} (hd : L.drop p = x ++ y) : L.drop (p + x.length) = y := by
  rw [← List.drop_drop, hd, List.drop_left]
theorem at5_rest (hT : T.size ≤ 1000000) (hol : ot.length ≤ 1000000) {r : List UInt8} : ∀ (ws : List Str) {p : Nat} {wt : List Str} {b : Bool}, T.data.toList.drop p = jn false ws ++ 10 :: r → wt ≠ [] → wt.length + ws.length ≤ 1000000 →
    At5 Q ρ0 nm nr no nl nt T rp op lp true (p + (jn false ws).length + 1) [] (ot ++ [wt ++ ws]) → At5 Q ρ0 nm nr no nl nt T rp op lp b p wt ot
  | [], p, wt, b, hd, h0, hl, H => by
    rw [List.append_nil] at H
    exact at5_nl hT hol hd h0 H
  | w :: ws, p, wt, b, hd, h0, hl, H => by
    have hd : T.data.toList.drop p = 32 :: (showL w.data.toList ++ (jn false ws ++ 10 :: r)) := by rw [hd]; simp [jn]
    simp only [List.length_cons] at hl
    have hd2 := drop_next hd
    obtain ⟨d, y, e, hdd⟩ := jn_head ws r
    have hd3 := hd2
    rw [e] at hd3
    refine at5_blank hT hd (at5_show hT (by omega) hd3 hdd ?_)
    refine at5_rest hT hol ws (drop_add hd2) (by simp) (by simp; omega) ?_
    have e2 : p + 1 + (showL w.data.toList).length + (jn false ws).length + 1 = p + (jn false (w :: ws)).length + 1 := by simp [jn]; omega
    rw [e2, List.append_assoc]
    exact H
theorem at5_lines (hT : T.size ≤ 1000000) : ∀ (ls : List Line) {p : Nat} {ot : List Line}, T.data.toList.drop p = prL ls → p + (prL ls).length = T.size → (∀ l, l ∈ ls → l ≠ [] ∧ l.length ≤ 1000000) → ot.length + ls.length ≤ 1000000 →
    At5 Q ρ0 nm nr no nl nt T rp op lp true T.size [] (ot ++ ls) → At5 Q ρ0 nm nr no nl nt T rp op lp true p [] ot
  | [], p, ot, hd, hp, hl, ho, H => by
    have : p = T.size := by simpa [prL] using hp
    subst this
    rw [List.append_nil] at H
    exact H
  | l :: ls, p, ot, hd, hp, hl, ho, H => by
    obtain ⟨h0, h1⟩ := hl l (by simp)
    simp only [List.length_cons] at ho
    cases l with
    | nil => exact absurd rfl h0
    | cons w ws =>
      have e0 : prL ((w :: ws) :: ls) = showL w.data.toList ++ (jn false ws ++ 10 :: prL ls) := by simp [prL, jn]
      rw [e0] at hd hp
      obtain ⟨d, y, e, hdd⟩ := jn_head ws (prL ls)
      have hd3 := hd
      rw [e] at hd3
      refine at5_show hT (by simp) hd3 hdd ?_
      simp only [List.length_cons] at h1
      refine at5_rest hT (by omega) ws (drop_add hd) (by simp) (by simp; omega) ?_
      have hd4 := drop_add (drop_add hd)
      have hd5 := drop_next hd4
      simp only [List.length_append, List.length_cons] at hp
      refine at5_lines hT ls hd5 (by omega) (fun l hm => hl l (by simp [hm])) (by simp; omega) ?_
      rw [List.append_assoc]
      exact H
theorem rdr_lines_ok (O : Own h μ ρ) {ln co : Int} (hr : ρ nr = some (rdr rp T 0 ln co)) (hT : T.size ≤ 1000000) {ls : List Line} (hs : T.data.toList = prL ls) (hl : ∀ l, l ∈ ls → l ≠ [] ∧ l.length ≤ 1000000) (ho : ls.length ≤ 1000000)
    (H : ∀ h' μ' ρ' nt nm oa oc outs vs, Own h' μ' ρ' → Fra [nr] ρ ρ' → ρ nt = none → ρ nm = none → ρ' nt = some (.sl oa oc 3 (List.flatMap Lx.cells outs)) → ρ' nm = some (.many vs) → outs.map (fun l => l.ws.map Wx.t) = ls → OutsOk vs outs → Q (.slice oa outs.length oc) h') :
    EvQ P f_p_lex_reader_lines [.pointer (some ⟨rp, 0, none⟩)] h Q := by
  refine r_p_lex_reader_lines ?_
  have W0 := Pcs.one hr
  obtain ⟨μ1, ρ1, no, O1, W1, hno⟩ := w_new O W0 [.slice none 0 0]
  have W1 := W1.rot
  obtain ⟨μ2, ρ2, nl, O2, W2, hnl⟩ := w_new O1 W1 [.int .i64 0, .bool false, .slice none 0 0]
  refine w_wrL O2 W2 0 (j := 0) rfl (by simp) rfl fun h3 ρ3 O3 W3 => ?_
  have W3 := W3.rot
  obtain ⟨ρ4, nt, O4, W4, hnt⟩ := w_nil O3 W3 3
  have W4 := W4.rot
  obtain ⟨ρ5, nm, O5, W5, hnm⟩ := w_many O4 W4
  obtain ⟨ρ6, nw, O6, W6, hnw⟩ := w_nil O5 W5 5
  have hsz : T.size = T.data.toList.length := rfl
  have W7 : Pcs ρ ρ6 [nw, nm, nr, no, nl, nt] (stX none none 0 0 [] [] [] rp h.next (AW.addVar h [.slice none 0 0]).next 0 T ln co 1) := W6
  refine at5_lines (Q := Q) (ρ0 := ρ) (nm := nm) (nr := nr) (no := no) (nl := nl) (nt := nt) (T := T) (rp := rp) (op := h.next) (lp := (AW.addVar h [.slice none 0 0]).next) hT ls (p := 0) (ot := []) (by rw [List.drop_zero, hs]) (by rw [hsz, hs]; omega) hl (by simpa using ho) ?_ O6 hnw W7 rfl rfl (fun l hl => by cases hl)
  rw [List.nil_append]
  refine at5_end fun h' μ' ρ' nw' wa oa wc oc ws outs vs ln' co' num O' hn' W' e2 hv => ?_
  refine H h' μ' ρ' nt nm oa oc outs vs O' (fun c r hc he => W'.fra c r (fun hm => ?_) he) hnt hnm (W'.at_ 5 _ _ rfl rfl) (W'.at_ 1 _ _ rfl rfl) e2 hv
  simp only [List.mem_cons, List.not_mem_nil, or_false] at hm hc
  rcases hm with rfl | rfl | rfl | rfl | rfl | rfl
  · rw [hn'] at he; cases he
  · rw [hnm] at he; cases he
  · exact hc rfl
  · rw [hno] at he; cases he
  · rw [hnl] at he; cases he
  · rw [hnt] at he; cases he
theorem lexLines_ok (O : Own h μ ρ) (hT : T.size ≤ 32768) {ls : List Line} (hs : T.data.toList = prL ls) (hl : ∀ l, l ∈ ls → l ≠ [] ∧ l.length ≤ 1000000) (ho : ls.length ≤ 1000000)
    (H : ∀ h' μ' ρ' nt nm oa oc outs vs, Own h' μ' ρ' → Fra [] ρ ρ' → ρ nt = none → ρ nm = none → ρ' nt = some (.sl oa oc 3 (List.flatMap Lx.cells outs)) → ρ' nm = some (.many vs) → outs.map (fun l => l.ws.map Wx.t) = ls → OutsOk vs outs → Q (.tuple ⟨[.slice oa outs.length oc, .agg ⟨[.int .i64 0, .int .i64 0]⟩]⟩) h') :
    EvQ P f_lex_Lines [.string T] h Q := by
  refine r_lex_Lines ?_
  rw [show decide ((T.size : Int) > 32768) = false from decide_eq_false (by omega)]
  simp only [oB_some, bC_true, bC_false, vInt_int, vBool_bool, vStr_string, vPtr_pointer, vSl_slice, vMap_map, vFun_func, vAgg_agg, vTup_tuple, vIfc_nil, vIfc_iface, lC_cons, lN_nil, aP_some, shO_none, shO_some, Option.isNone_none, Option.isNone_some, Bool.not_true, Bool.not_false]
  obtain ⟨μ1, ρ1, c1, O1, W1, hc1⟩ := w_new O p00 [.slice none 0 0]
  obtain ⟨μ2, ρ2, c2, O2, W2, hc2⟩ := w_new O1 W1 [.int .i64 0, .int .i64 0]
  obtain ⟨μ3, ρ3, c3, O3, W3, hc3⟩ := w_new O2 W2 [.string T, .int .i64 0, .int .i64 1, .int .i64 0]
  have F3 : Fra [] ρ ρ3 := W3.fra0 fun c hc => by simp at hc; rcases hc with rfl | rfl | rfl <;> assumption
  have hn3 : c3 ∉ [c2, c1] := (List.nodup_cons.1 W3.nodup).1
  refine rdr_lines_ok (nr := c3) (ln := 1) (co := 0) O3 (W3.at_ 0 _ _ rfl rfl) (by omega) hs hl ho fun h4 μ4 ρ4 nt nm oa oc outs vs O4 F4 hnt hnm ht hm e2 hv => ?_
  simp only [oB_some, bC_true, bC_false, vInt_int, vBool_bool, vStr_string, vPtr_pointer, vSl_slice, vMap_map, vFun_func, vAgg_agg, vTup_tuple, vIfc_nil, vIfc_iface, lC_cons, lN_nil, aP_some, shO_none, shO_some, Option.isNone_none, Option.isNone_some, Bool.not_true, Bool.not_false]
  have W4 : Pcs ρ4 ρ4 [c2, c1] _ := (W3.tail hc3).keep F4 fun c hc hmm => by simp at hc; subst hc; exact hn3 hmm
  refine w_wr O4 W4 1 (j := 0) rfl (by simp) rfl fun h5 ρ5 O5 W5 => ?_
  refine w_wrL O5 W5 0 (j := 0) rfl (by simp) rfl fun h6 ρ6 O6 W6 => ?_
  refine w_rd O6 W6 1 (j := 0) rfl rfl ?_
  simp only [oB_some, bC_true, bC_false, vInt_int, vBool_bool, vStr_string, vPtr_pointer, vSl_slice, vMap_map, vFun_func, vAgg_agg, vTup_tuple, vIfc_nil, vIfc_iface, lC_cons, lN_nil, aP_some, shO_none, shO_some, Option.isNone_none, Option.isNone_some, Bool.not_true, Bool.not_false]
  refine w_rd O6 W6 0 (j := 0) rfl rfl ?_
  simp only [oB_some, bC_true, bC_false, vInt_int, vBool_bool, vStr_string, vPtr_pointer, vSl_slice, vMap_map, vFun_func, vAgg_agg, vTup_tuple, vIfc_nil, vIfc_iface, lC_cons, lN_nil, aP_some, shO_none, shO_some, Option.isNone_none, Option.isNone_some, Bool.not_true, Bool.not_false]
  refine w_rd O6 W6 0 (j := 1) rfl rfl ?_
  simp only [oB_some, bC_true, bC_false, vInt_int, vBool_bool, vStr_string, vPtr_pointer, vSl_slice, vMap_map, vFun_func, vAgg_agg, vTup_tuple, vIfc_nil, vIfc_iface, lC_cons, lN_nil, aP_some, shO_none, shO_some, Option.isNone_none, Option.isNone_some, Bool.not_true, Bool.not_false]
  have g : ∀ c, c ∈ [c2, c1] → ρ c = none := fun c hc => by simp at hc; rcases hc with rfl | rfl <;> assumption
  have g3 : ∀ c, c ∈ [c3, c2, c1] → ρ3 c = none → False := fun c hc he => by
    simp only [List.mem_cons, List.not_mem_nil, or_false] at hc
    rcases hc with rfl | rfl | rfl
    · rw [W3.at_ 0 _ _ rfl rfl] at he; cases he
    · rw [W3.at_ 1 _ _ rfl rfl] at he; cases he
    · rw [W3.at_ 2 _ _ rfl rfl] at he; cases he
  have kt : nt ∉ [c2, c1] := fun hm' => g3 nt (List.mem_cons_of_mem _ hm') hnt
  have km : nm ∉ [c2, c1] := fun hm' => g3 nm (List.mem_cons_of_mem _ hm') hnm
  refine H _ _ _ nt nm oa oc outs vs O6 (fun c r _ hc => W6.fra c r (fun hm' => by rw [g c hm'] at hc; cases hc) (F4 c r (fun hm' => by simp at hm'; subst hm'; rw [hc3] at hc; cases hc) (F3 c r (by simp) hc))) (F3.none0 hnt) (F3.none0 hnm) (W6.fra _ _ kt ht) (W6.fra _ _ km hm) e2 hv
end Go.Proofs.YtgdkekdedgkglaaDoor
end

section
/- A line as a statement. -/
namespace Go.Proofs.YtgdkekdedgkglaaDoor
open Go.Abs Go.Abs.Fo
set_option maxRecDepth 100000
attribute [local irreducible] unitAt EvQ
variable {h : AW} {μ : Paint} {ρ : Store} {Q : Value → AW → Prop}

theorem opOf_word {w : Str} (h : opOf w ≠ 0) : wordM (opOf w) = w := by
  unfold opOf at h ⊢
  by_cases e0 : w = wNeed
  · rw [if_pos e0, e0]; rfl
  rw [if_neg e0] at h ⊢
  by_cases e1 : w = wCat
  · rw [if_pos e1, e1]; rfl
  rw [if_neg e1] at h ⊢
  by_cases e2 : w = wText
  · rw [if_pos e2, e2]; rfl
  rw [if_neg e2] at h ⊢
  by_cases e3 : w = wUpper
  · rw [if_pos e3, e3]; rfl
  rw [if_neg e3] at h ⊢
  by_cases e4 : w = wSort
  · rw [if_pos e4, e4]; rfl
  rw [if_neg e4] at h ⊢
  by_cases e5 : w = wUniq
  · rw [if_pos e5, e5]; rfl
  rw [if_neg e5] at h ⊢
  by_cases e6 : w = wCount
  · rw [if_pos e6, e6]; rfl
  rw [if_neg e6] at h ⊢
  by_cases e7 : w = wWrite
  · rw [if_pos e7, e7]; rfl
  rw [if_neg e7] at h ⊢
  by_cases e8 : w = wFail
  · rw [if_pos e8, e8]; rfl
  rw [if_neg e8] at h ⊢
  by_cases e9 : w = wRepeat
  · rw [if_pos e9, e9]; rfl
  rw [if_neg e9] at h ⊢
  by_cases e10 : w = wEach
  · rw [if_pos e10, e10]; rfl
  rw [if_neg e10] at h ⊢
  by_cases e11 : w = wWhen
  · rw [if_pos e11, e11]; rfl
  rw [if_neg e11] at h ⊢
  exact absurd rfl h
theorem word_opOf : ∀ k : Nat, 1 ≤ k → k ≤ 12 → opOf (wordM k) = k
  | 1, _, _ => by decide
  | 2, _, _ => by decide
  | 3, _, _ => by decide
  | 4, _, _ => by decide
  | 5, _, _ => by decide
  | 6, _, _ => by decide
  | 7, _, _ => by decide
  | 8, _, _ => by decide
  | 9, _, _ => by decide
  | 10, _, _ => by decide
  | 11, _, _ => by decide
  | 12, _, _ => by decide
  | 0, h, _ => by omega
  | k + 13, _, h => by omega
theorem opOf_le (w : Str) : opOf w ≤ 12 := by
  have it : ∀ {c : Prop} [Decidable c] {a b : Nat}, a ≤ 12 → b ≤ 12 → (if c then a else b) ≤ 12 := by
    intro c _ a b h1 h2
    split <;> assumption
  unfold opOf
  repeat' refine it (by decide) ?_
  decide
theorem word_iff {w : Str} {k : Nat} (h1 : 1 ≤ k) (h2 : k ≤ 12) : wordM k = w ↔ opOf w = k :=
  ⟨fun e => by rw [← e]; exact word_opOf k h1 h2, fun e => by rw [← e]; exact opOf_word (by omega)⟩
theorem word_ok (O : Own h μ ρ) {k : Nat} (hk : k ≤ 12) (hq : RdQ Q ρ (.string (wordM k))) : EvQ P f_action_word [.int .i64 (k : Int)] h Q := by
  refine r_action_word ?_
  refine w_copy O p00 rfl rfl rfl fun h1 μ1 ρ1 c1 O1 W1 hc1 => ?_
  have F1 : Fra [] ρ ρ1 := W1.fra0 fun c hc => by simp at hc; rw [hc]; exact hc1
  rw [show decide ((k : Int) < 0) = false from decide_eq_false (by omega)]
  simp only [oB_some, bC_true, bC_false, vInt_int, vBool_bool, vStr_string, vPtr_pointer, vSl_slice, vMap_map, vFun_func, vAgg_agg, vTup_tuple, vIfc_nil, vIfc_iface, lC_cons, lN_nil, aP_some, shO_none, shO_some, Option.isNone_none, Option.isNone_some, Bool.not_true, Bool.not_false]
  rw [show decide ((k : Int) ≥ 13) = false from decide_eq_false (by omega)]
  simp only [oB_some, bC_true, bC_false, vInt_int, vBool_bool, vStr_string, vPtr_pointer, vSl_slice, vMap_map, vFun_func, vAgg_agg, vTup_tuple, vIfc_nil, vIfc_iface, lC_cons, lN_nil, aP_some, shO_none, shO_some, Option.isNone_none, Option.isNone_some, Bool.not_true, Bool.not_false]
  rw [natIdx_eq (show k < 13 by omega)]
  simp only [oB_some, bC_true, bC_false, vInt_int, vBool_bool, vStr_string, vPtr_pointer, vSl_slice, vMap_map, vFun_func, vAgg_agg, vTup_tuple, vIfc_nil, vIfc_iface, lC_cons, lN_nil, aP_some, shO_none, shO_some, Option.isNone_none, Option.isNone_some, Bool.not_true, Bool.not_false]
  have hv : (kinds.map Value.string)[k]? = some (.string (wordM k)) := by
    have : wordM (k : Int) = (kinds[k]?).getD e0 := rfl
    rw [this, List.getElem?_map, List.getElem?_eq_getElem (by simp; omega)]; rfl
  rw [show 0 + k * 1 = k from by omega]
  refine w_rd O1 W1 0 rfl hv ?_
  simp only [oB_some, bC_true, bC_false, vInt_int, vBool_bool, vStr_string, vPtr_pointer, vSl_slice, vMap_map, vFun_func, vAgg_agg, vTup_tuple, vIfc_nil, vIfc_iface, lC_cons, lN_nil, aP_some, shO_none, shO_some, Option.isNone_none, Option.isNone_some, Bool.not_true, Bool.not_false]
  exact hq _ _ _ O1 F1
theorem clone_vw (O : Own h μ ρ) {a : Option Addr} {x : List Str} {cap : Nat} (X : Vw ρ [] a (strs x)) (hx : x.length ≤ 1000000000) (hq : NewS Q ρ x) :
    EvQ P f_slices_Clone_sl_string_string [.slice a x.length cap] h Q := by
  rcases X with ⟨rfl, e⟩ | X
  · have : x = [] := by simpa using e
    subst this
    refine r_slices_Clone_sl_string_string ?_
    simp only [oB_some, bC_true, bC_false, vInt_int, vBool_bool, vStr_string, vPtr_pointer, vSl_slice, vMap_map, vFun_func, vAgg_agg, vTup_tuple, vIfc_nil, vIfc_iface, lC_cons, lN_nil, aP_some, shO_none, shO_some, Option.isNone_none, Option.isNone_some, Bool.not_true, Bool.not_false]
    exact new_nil O hq
  · exact clone_ok O X hx hq
/-- A statement comes back, its words in a slice of its own. -/
def NewX (Q : Value → AW → Prop) (ρ : Store) (x : X) : Prop :=
  ∀ h' μ' ρ' co oa oc, Own h' μ' ρ' → Pcs ρ ρ' [co] [.sl oa oc 1 (strs x.args)] → ρ co = none →
    Q (.tuple ⟨[.agg ⟨[.int .i64 x.op, .slice oa x.args.length oc, .int .i64 x.n, .slice none 0 0]⟩, .bool x.ok]⟩) h'
theorem NewX.none {x : X} (hq : NewX Q ρ x) (e : x.args = []) {ρ' : Store} {μ' : Paint} {h' : AW} (O' : Own h' μ' ρ') (F : Fra [] ρ ρ') :
    Q (.tuple ⟨[.agg ⟨[.int .i64 x.op, .slice Option.none 0 0, .int .i64 x.n, .slice Option.none 0 0]⟩, .bool x.ok]⟩) h' := by
  obtain ⟨ρ1, c1, O1, W1, hc1⟩ := w_nil O' (Pcs.mk (ρ0 := ρ) (ns := []) (rs := []) List.nodup_nil rfl (by intro i c r h; simp at h) F) 1
  have := hq h' μ' ρ1 c1 Option.none 0 O1 (by rw [e]; exact W1) hc1
  rw [e] at this
  exact this
theorem stmtM_ne {w : Str} {args : List Str} (e : opOf w ≠ 10) : stmtM (w :: args) = ⟨opOf w, args, 0, decide (0 < opOf w) && fitsM (opOf w) args.length⟩ := by
  show (if opOf w = 10 then _ else _) = _
  rw [if_neg e]
theorem stmtM_one {w s : Str} (e : opOf w = 10) : stmtM [w, s] = ⟨10, [], numM s, decide (numM s ≥ 0)⟩ := by
  show (if opOf w = 10 then _ else _) = _
  rw [if_pos e]
theorem stmtM_bad {w : Str} {args : List Str} (e : opOf w = 10) (h : args.length ≠ 1) : stmtM (w :: args) = ⟨0, [], 0, false⟩ := by
  show (if opOf w = 10 then _ else _) = _
  rw [if_pos e]
  match args, h with
  | [], _ => rfl
  | [s], h => exact absurd rfl h
  | _ :: _ :: _, _ => rfl
theorem stmt_loop {G : Str → Prop} (T : Tbs G ρ) {w : Str} {args : List Str} {a : Option Addr} {cap : Nat} (V : Vw ρ [] a (strs (w :: args))) (hc : (w :: args).length ≤ cap) (hl : args.length ≤ 1000000) (hs : ∀ s, args = [s] → opOf w = 10 → G s) (hq : NewX Q ρ (stmtM (w :: args))) :
    ∀ (d k : Nat) {h : AW} {μ : Paint} {ρ' : Store} {p5 p4 c5 c4 : Nat}, 13 - k = d → 1 ≤ k → k ≤ 13 → Own h μ ρ' → Pcs ρ ρ' [c5, c4] [.var p5 [.int .i64 ((if opOf w < k then opOf w else 0 : Nat) : Int), .slice none 0 0, .int .i64 0, .slice none 0 0], .var p4 [.int .i64 0, .slice none 0 0, .int .i64 0, .slice none 0 0]] → ρ c5 = none → ρ c4 = none →
      unitAt P f_action_stmt 5 [0, 2, 4, 5] [.slice a (w :: args).length cap, .pointer (some ⟨p4, 0, none⟩), .pointer (some ⟨p5, 0, none⟩), .int .i64 (k : Int)] h Q := by
  intro d
  induction d with
  | zero =>
    intro k h μ ρ' p5 p4 c5 c4 hd h1 hk O W hc5 hc4
    have : k = 13 := by omega
    subst this
    have F : Fra [] ρ ρ' := W.fra0 fun c hc => by
      simp at hc; rcases hc with rfl | rfl <;> assumption
    have hop := opOf_le w
    rw [if_pos (by omega)] at W
    refine r_action_stmt_5 ?_
    rw [show decide (((13 : Nat) : Int) ≤ 12) = false from rfl]
    simp only [oB_some, bC_true, bC_false, vInt_int, vBool_bool, vStr_string, vPtr_pointer, vSl_slice, vMap_map, vFun_func, vAgg_agg, vTup_tuple, vIfc_nil, vIfc_iface, lC_cons, lN_nil, aP_some, shO_none, shO_some, Option.isNone_none, Option.isNone_some, Bool.not_true, Bool.not_false]
    rw [show natBnd 1 (w :: args).length = some 1 from natBnd_eq (j := 1) (by simp)]
    simp only [oB_some, bC_true, bC_false, vInt_int, vBool_bool, vStr_string, vPtr_pointer, vSl_slice, vMap_map, vFun_func, vAgg_agg, vTup_tuple, vIfc_nil, vIfc_iface, lC_cons, lN_nil, aP_some, shO_none, shO_some, Option.isNone_none, Option.isNone_some, Bool.not_true, Bool.not_false]
    rw [Nat.ble_eq_true_of_le hc]
    simp only [oB_some, bC_true, bC_false, vInt_int, vBool_bool, vStr_string, vPtr_pointer, vSl_slice, vMap_map, vFun_func, vAgg_agg, vTup_tuple, vIfc_nil, vIfc_iface, lC_cons, lN_nil, aP_some, shO_none, shO_some, Option.isNone_none, Option.isNone_some, Bool.not_true, Bool.not_false]
    obtain ⟨a', ea, V'⟩ := (V.keep F).drop (1 * 1)
    rw [ea]
    have V' : Vw ρ' [] a' (strs args) := V'
    have hlen : (w :: args).length - 1 = args.length := by simp
    rw [hlen]
    repeat (first | refine ⟨rfl, ?_⟩ | refine ⟨trivial, ?_⟩ | simp only [oB_some, bC_true, bC_false, vInt_int, vBool_bool, vStr_string, vPtr_pointer, vSl_slice, vMap_map, vFun_func, vAgg_agg, vTup_tuple, vIfc_nil, vIfc_iface, lC_cons, lN_nil, aP_some, shO_none, shO_some, Option.isNone_none, Option.isNone_some, Bool.not_true, Bool.not_false] | refine w_rd (by assumption) (by assumption) 0 (by rfl) (by rfl) ?_ | refine w_rd (by assumption) (by assumption) 1 (by rfl) (by rfl) ?_ | refine w_wrL (by assumption) (by assumption) 0 (by rfl) (Nat.le_of_ble_eq_true (by rfl)) (by rfl) fun h ρz O W => ?_ | refine w_wrL (by assumption) (by assumption) 1 (by rfl) (Nat.le_of_ble_eq_true (by rfl)) (by rfl) fun h ρz O W => ?_ | refine w_wr (by assumption) (by assumption) 0 (by rfl) (Nat.le_of_ble_eq_true (by rfl)) (by rfl) fun h ρz O W => ?_ | refine w_wr (by assumption) (by assumption) 1 (by rfl) (Nat.le_of_ble_eq_true (by rfl)) (by rfl) fun h ρz O W => ?_)
    refine bC_iff (fun e => ?_) (fun e => ?_)
    · have e : opOf w = 10 := by have := eqI e; omega
      refine bC_iff (fun e2 => ?_) (fun e2 => ?_)
      · rw [stmtM_bad e (by simp at e2; omega)] at hq
        repeat (first | refine ⟨rfl, ?_⟩ | refine ⟨trivial, ?_⟩ | simp only [oB_some, bC_true, bC_false, vInt_int, vBool_bool, vStr_string, vPtr_pointer, vSl_slice, vMap_map, vFun_func, vAgg_agg, vTup_tuple, vIfc_nil, vIfc_iface, lC_cons, lN_nil, aP_some, shO_none, shO_some, Option.isNone_none, Option.isNone_some, Bool.not_true, Bool.not_false] | refine w_rd (by assumption) (by assumption) 0 (by rfl) (by rfl) ?_ | refine w_rd (by assumption) (by assumption) 1 (by rfl) (by rfl) ?_ | refine w_wrL (by assumption) (by assumption) 0 (by rfl) (Nat.le_of_ble_eq_true (by rfl)) (by rfl) fun h ρz O W => ?_ | refine w_wrL (by assumption) (by assumption) 1 (by rfl) (Nat.le_of_ble_eq_true (by rfl)) (by rfl) fun h ρz O W => ?_ | refine w_wr (by assumption) (by assumption) 0 (by rfl) (Nat.le_of_ble_eq_true (by rfl)) (by rfl) fun h ρz O W => ?_ | refine w_wr (by assumption) (by assumption) 1 (by rfl) (Nat.le_of_ble_eq_true (by rfl)) (by rfl) fun h ρz O W => ?_)
        exact hq.none rfl (by assumption) (Pcs.fra0 (by assumption) fun c hc => by
          simp at hc; rcases hc with rfl | rfl <;> assumption)
      · obtain ⟨s, rfl⟩ : ∃ s, args = [s] := by
          match args, e2 with
          | [], e2 => simp at e2
          | [s], _ => exact ⟨s, rfl⟩
          | _ :: _ :: _, e2 => simp at e2; omega
        rw [stmtM_one e] at hq
        refine wd_at (j := 0) O V' rfl rfl (by simp) ?_
        refine number_ok O (T.keep F) (hs _ rfl e) fun h2 μ2 ρ2 O2 F2 => ?_
        have W := W.keep0 F2
        rw [e] at W
        repeat (first | refine ⟨rfl, ?_⟩ | refine ⟨trivial, ?_⟩ | simp only [oB_some, bC_true, bC_false, vInt_int, vBool_bool, vStr_string, vPtr_pointer, vSl_slice, vMap_map, vFun_func, vAgg_agg, vTup_tuple, vIfc_nil, vIfc_iface, lC_cons, lN_nil, aP_some, shO_none, shO_some, Option.isNone_none, Option.isNone_some, Bool.not_true, Bool.not_false] | refine w_rd (by assumption) (by assumption) 0 (by rfl) (by rfl) ?_ | refine w_rd (by assumption) (by assumption) 1 (by rfl) (by rfl) ?_ | refine w_wrL (by assumption) (by assumption) 0 (by rfl) (Nat.le_of_ble_eq_true (by rfl)) (by rfl) fun h ρz O W => ?_ | refine w_wrL (by assumption) (by assumption) 1 (by rfl) (Nat.le_of_ble_eq_true (by rfl)) (by rfl) fun h ρz O W => ?_ | refine w_wr (by assumption) (by assumption) 0 (by rfl) (Nat.le_of_ble_eq_true (by rfl)) (by rfl) fun h ρz O W => ?_ | refine w_wr (by assumption) (by assumption) 1 (by rfl) (Nat.le_of_ble_eq_true (by rfl)) (by rfl) fun h ρz O W => ?_)
        exact hq.none rfl (by assumption) (Pcs.fra0 (by assumption) fun c hc => by
          simp at hc; rcases hc with rfl | rfl <;> assumption)
    · have e : opOf w ≠ 10 := by have := neI e; omega
      rw [stmtM_ne e] at hq
      refine clone_vw O V' (by omega) fun h2 μ2 ρ2 co oa oc O2 W2 hco => ?_
      have W := W.adopt W2 hco
      have hco0 := F.none0 hco
      repeat (first | refine ⟨rfl, ?_⟩ | refine ⟨trivial, ?_⟩ | simp only [oB_some, bC_true, bC_false, vInt_int, vBool_bool, vStr_string, vPtr_pointer, vSl_slice, vMap_map, vFun_func, vAgg_agg, vTup_tuple, vIfc_nil, vIfc_iface, lC_cons, lN_nil, aP_some, shO_none, shO_some, Option.isNone_none, Option.isNone_some, Bool.not_true, Bool.not_false] | refine w_rd (by assumption) (by assumption) 0 (by rfl) (by rfl) ?_ | refine w_rd (by assumption) (by assumption) 1 (by rfl) (by rfl) ?_ | refine w_rd (by assumption) (by assumption) 2 (by rfl) (by rfl) ?_ | refine w_wrL (by assumption) (by assumption) 0 (by rfl) (Nat.le_of_ble_eq_true (by rfl)) (by rfl) fun h ρz O W => ?_ | refine w_wrL (by assumption) (by assumption) 1 (by rfl) (Nat.le_of_ble_eq_true (by rfl)) (by rfl) fun h ρz O W => ?_ | refine w_wrL (by assumption) (by assumption) 2 (by rfl) (Nat.le_of_ble_eq_true (by rfl)) (by rfl) fun h ρz O W => ?_ | refine w_wr (by assumption) (by assumption) 0 (by rfl) (Nat.le_of_ble_eq_true (by rfl)) (by rfl) fun h ρz O W => ?_ | refine w_wr (by assumption) (by assumption) 1 (by rfl) (Nat.le_of_ble_eq_true (by rfl)) (by rfl) fun h ρz O W => ?_ | refine w_wr (by assumption) (by assumption) 2 (by rfl) (Nat.le_of_ble_eq_true (by rfl)) (by rfl) fun h ρz O W => ?_)
      refine bC_iff (fun e2 => ?_) (fun e2 => ?_)
      · have e2 := of_decide_eq_true e2
        rw [show decide (0 < opOf w) = true from decide_eq_true (by omega), Bool.true_and] at hq
        repeat (first | refine ⟨rfl, ?_⟩ | refine ⟨trivial, ?_⟩ | simp only [oB_some, bC_true, bC_false, vInt_int, vBool_bool, vStr_string, vPtr_pointer, vSl_slice, vMap_map, vFun_func, vAgg_agg, vTup_tuple, vIfc_nil, vIfc_iface, lC_cons, lN_nil, aP_some, shO_none, shO_some, Option.isNone_none, Option.isNone_some, Bool.not_true, Bool.not_false] | refine w_rd (by assumption) (by assumption) 0 (by rfl) (by rfl) ?_ | refine w_rd (by assumption) (by assumption) 1 (by rfl) (by rfl) ?_ | refine w_rd (by assumption) (by assumption) 2 (by rfl) (by rfl) ?_ | refine w_wrL (by assumption) (by assumption) 0 (by rfl) (Nat.le_of_ble_eq_true (by rfl)) (by rfl) fun h ρz O W => ?_ | refine w_wrL (by assumption) (by assumption) 1 (by rfl) (Nat.le_of_ble_eq_true (by rfl)) (by rfl) fun h ρz O W => ?_ | refine w_wrL (by assumption) (by assumption) 2 (by rfl) (Nat.le_of_ble_eq_true (by rfl)) (by rfl) fun h ρz O W => ?_ | refine w_wr (by assumption) (by assumption) 0 (by rfl) (Nat.le_of_ble_eq_true (by rfl)) (by rfl) fun h ρz O W => ?_ | refine w_wr (by assumption) (by assumption) 1 (by rfl) (Nat.le_of_ble_eq_true (by rfl)) (by rfl) fun h ρz O W => ?_ | refine w_wr (by assumption) (by assumption) 2 (by rfl) (Nat.le_of_ble_eq_true (by rfl)) (by rfl) fun h ρz O W => ?_)
        refine fits_ok ?_
        repeat (first | refine ⟨rfl, ?_⟩ | refine ⟨trivial, ?_⟩ | simp only [oB_some, bC_true, bC_false, vInt_int, vBool_bool, vStr_string, vPtr_pointer, vSl_slice, vMap_map, vFun_func, vAgg_agg, vTup_tuple, vIfc_nil, vIfc_iface, lC_cons, lN_nil, aP_some, shO_none, shO_some, Option.isNone_none, Option.isNone_some, Bool.not_true, Bool.not_false] | refine w_rd (by assumption) (by assumption) 0 (by rfl) (by rfl) ?_ | refine w_rd (by assumption) (by assumption) 1 (by rfl) (by rfl) ?_ | refine w_rd (by assumption) (by assumption) 2 (by rfl) (by rfl) ?_ | refine w_wrL (by assumption) (by assumption) 0 (by rfl) (Nat.le_of_ble_eq_true (by rfl)) (by rfl) fun h ρz O W => ?_ | refine w_wrL (by assumption) (by assumption) 1 (by rfl) (Nat.le_of_ble_eq_true (by rfl)) (by rfl) fun h ρz O W => ?_ | refine w_wrL (by assumption) (by assumption) 2 (by rfl) (Nat.le_of_ble_eq_true (by rfl)) (by rfl) fun h ρz O W => ?_ | refine w_wr (by assumption) (by assumption) 0 (by rfl) (Nat.le_of_ble_eq_true (by rfl)) (by rfl) fun h ρz O W => ?_ | refine w_wr (by assumption) (by assumption) 1 (by rfl) (Nat.le_of_ble_eq_true (by rfl)) (by rfl) fun h ρz O W => ?_ | refine w_wr (by assumption) (by assumption) 2 (by rfl) (Nat.le_of_ble_eq_true (by rfl)) (by rfl) fun h ρz O W => ?_)
        refine hq _ _ _ co oa oc (by assumption) (Pcs.tail2 (Pcs.tail2 (by assumption) hc5) hc4) hco0
      · have e2 := of_decide_eq_false e2
        rw [show decide (0 < opOf w) = false from decide_eq_false (by omega), Bool.false_and] at hq
        repeat (first | refine ⟨rfl, ?_⟩ | refine ⟨trivial, ?_⟩ | simp only [oB_some, bC_true, bC_false, vInt_int, vBool_bool, vStr_string, vPtr_pointer, vSl_slice, vMap_map, vFun_func, vAgg_agg, vTup_tuple, vIfc_nil, vIfc_iface, lC_cons, lN_nil, aP_some, shO_none, shO_some, Option.isNone_none, Option.isNone_some, Bool.not_true, Bool.not_false] | refine w_rd (by assumption) (by assumption) 0 (by rfl) (by rfl) ?_ | refine w_rd (by assumption) (by assumption) 1 (by rfl) (by rfl) ?_ | refine w_rd (by assumption) (by assumption) 2 (by rfl) (by rfl) ?_ | refine w_wrL (by assumption) (by assumption) 0 (by rfl) (Nat.le_of_ble_eq_true (by rfl)) (by rfl) fun h ρz O W => ?_ | refine w_wrL (by assumption) (by assumption) 1 (by rfl) (Nat.le_of_ble_eq_true (by rfl)) (by rfl) fun h ρz O W => ?_ | refine w_wrL (by assumption) (by assumption) 2 (by rfl) (Nat.le_of_ble_eq_true (by rfl)) (by rfl) fun h ρz O W => ?_ | refine w_wr (by assumption) (by assumption) 0 (by rfl) (Nat.le_of_ble_eq_true (by rfl)) (by rfl) fun h ρz O W => ?_ | refine w_wr (by assumption) (by assumption) 1 (by rfl) (Nat.le_of_ble_eq_true (by rfl)) (by rfl) fun h ρz O W => ?_ | refine w_wr (by assumption) (by assumption) 2 (by rfl) (Nat.le_of_ble_eq_true (by rfl)) (by rfl) fun h ρz O W => ?_)
        have := hq _ _ _ co oa oc (by assumption) (Pcs.tail2 (Pcs.tail2 (by assumption) hc5) hc4) hco0
        exact this
  | succ d ih =>
    intro k h μ ρ' p5 p4 c5 c4 hd h1 hk O W hc5 hc4
    have F : Fra [] ρ ρ' := W.fra0 fun c hc => by
      simp at hc; rcases hc with rfl | rfl <;> assumption
    refine r_action_stmt_5 ?_
    rw [show decide ((k : Int) ≤ 12) = true from decide_eq_true (by omega)]
    simp only [oB_some, bC_true, bC_false, vInt_int, vBool_bool, vStr_string, vPtr_pointer, vSl_slice, vMap_map, vFun_func, vAgg_agg, vTup_tuple, vIfc_nil, vIfc_iface, lC_cons, lN_nil, aP_some, shO_none, shO_some, Option.isNone_none, Option.isNone_some, Bool.not_true, Bool.not_false]
    refine word_ok O (by omega) fun h2 μ2 ρ2 O2 F2 => ?_
    simp only [oB_some, bC_true, bC_false, vInt_int, vBool_bool, vStr_string, vPtr_pointer, vSl_slice, vMap_map, vFun_func, vAgg_agg, vTup_tuple, vIfc_nil, vIfc_iface, lC_cons, lN_nil, aP_some, shO_none, shO_some, Option.isNone_none, Option.isNone_some, Bool.not_true, Bool.not_false]
    have W2 := W.keep0 F2
    refine ((V.keep (F.trans F2)).sl O2).ix (sz := 1) (j := 0) rfl (by simp) (by omega) (by simp) fun i off ea _ => ?_
    subst ea
    have g2 : h2.rd i (off + 0) = some (.string w) := Sl.get (j := 0) ((V.keep (F.trans F2)).sl O2) rfl
    have g1 : h.rd i (off + 0) = some (.string w) := Sl.get (j := 0) ((V.keep F).sl O) rfl
    refine oB_bind g2 ?_
    simp only [oB_some, bC_true, bC_false, vInt_int, vBool_bool, vStr_string, vPtr_pointer, vSl_slice, vMap_map, vFun_func, vAgg_agg, vTup_tuple, vIfc_nil, vIfc_iface, lC_cons, lN_nil, aP_some, shO_none, shO_some, Option.isNone_none, Option.isNone_some, Bool.not_true, Bool.not_false]
    refine oB_bind g1 ?_
    simp only [oB_some, bC_true, bC_false, vInt_int, vBool_bool, vStr_string, vPtr_pointer, vSl_slice, vMap_map, vFun_func, vAgg_agg, vTup_tuple, vIfc_nil, vIfc_iface, lC_cons, lN_nil, aP_some, shO_none, shO_some, Option.isNone_none, Option.isNone_some, Bool.not_true, Bool.not_false]
    refine ⟨by trivial, ?_⟩
    rw [wrapS (by omega)]
    refine bC_iff (fun e => ?_) (fun e => ?_)
    · have e : opOf w = k := (word_iff h1 (by omega)).1 (bEq_iff.1 e)
      refine w_wr O2 W2 0 (j := 0) rfl (by simp) rfl fun h3 ρ3 O3 W3 => ?_
      refine ih (k + 1) (by omega) (by omega) (by omega) O3 (W3.eq ?_) hc5 hc4
      rw [show (if opOf w < k + 1 then opOf w else 0) = k from by rw [if_pos (by omega), e]]; rfl
    · have e : opOf w ≠ k := fun e2 => bEq_false.1 e ((word_iff h1 (by omega)).2 e2)
      refine ih (k + 1) (by omega) (by omega) (by omega) O2 (W2.eq ?_) hc5 hc4
      by_cases hlt : opOf w < k
      · rw [if_pos hlt, if_pos (by omega)]
      · rw [if_neg hlt, if_neg (by omega)]
theorem stmt_ok {G : Str → Prop} (O : Own h μ ρ) (T : Tbs G ρ) {x : List Str} {a : Option Addr} {cap : Nat} (V : Vw ρ [] a (strs x)) (hc : x.length ≤ cap) (hl : x.length ≤ 1000000) (hs : ∀ w s, x = [w, s] → opOf w = 10 → G s) (hq : NewX Q ρ (stmtM x)) :
    EvQ P f_action_stmt [.slice a x.length cap] h Q := by
  refine r_action_stmt ?_
  cases x with
  | nil =>
    rw [show (((([] : List Str).length : Nat) : Int) == 0) = true from rfl]
    simp only [oB_some, bC_true, bC_false, vInt_int, vBool_bool, vStr_string, vPtr_pointer, vSl_slice, vMap_map, vFun_func, vAgg_agg, vTup_tuple, vIfc_nil, vIfc_iface, lC_cons, lN_nil, aP_some, shO_none, shO_some, Option.isNone_none, Option.isNone_some, Bool.not_true, Bool.not_false]
    refine w_copy O p00 rfl rfl rfl fun h1 μ1 ρ1 c1 O1 W1 hc1 => ?_
    repeat (first | refine ⟨rfl, ?_⟩ | refine ⟨trivial, ?_⟩ | simp only [oB_some, bC_true, bC_false, vInt_int, vBool_bool, vStr_string, vPtr_pointer, vSl_slice, vMap_map, vFun_func, vAgg_agg, vTup_tuple, vIfc_nil, vIfc_iface, lC_cons, lN_nil, aP_some, shO_none, shO_some, Option.isNone_none, Option.isNone_some, Bool.not_true, Bool.not_false] | refine w_rd (by assumption) (by assumption) 0 (by rfl) (by rfl) ?_ | refine w_rd (by assumption) (by assumption) 1 (by rfl) (by rfl) ?_ | refine w_wrL (by assumption) (by assumption) 0 (by rfl) (Nat.le_of_ble_eq_true (by rfl)) (by rfl) fun h ρz O W => ?_ | refine w_wrL (by assumption) (by assumption) 1 (by rfl) (Nat.le_of_ble_eq_true (by rfl)) (by rfl) fun h ρz O W => ?_ | refine w_wr (by assumption) (by assumption) 0 (by rfl) (Nat.le_of_ble_eq_true (by rfl)) (by rfl) fun h ρz O W => ?_ | refine w_wr (by assumption) (by assumption) 1 (by rfl) (Nat.le_of_ble_eq_true (by rfl)) (by rfl) fun h ρz O W => ?_)
    exact hq.none rfl (by assumption) (Pcs.fra0 (by assumption) fun c hc => by
      simp at hc; rw [hc]; exact hc1)
  | cons w args =>
    rw [show ((((w :: args).length : Nat) : Int) == 0) = false from by simp; omega]
    simp only [oB_some, bC_true, bC_false, vInt_int, vBool_bool, vStr_string, vPtr_pointer, vSl_slice, vMap_map, vFun_func, vAgg_agg, vTup_tuple, vIfc_nil, vIfc_iface, lC_cons, lN_nil, aP_some, shO_none, shO_some, Option.isNone_none, Option.isNone_some, Bool.not_true, Bool.not_false]
    obtain ⟨μ1, ρ1, c1, O1, W1, hc1⟩ := w_new O p00 [.int .i64 0, .slice none 0 0, .int .i64 0, .slice none 0 0]
    refine w_copy O1 W1 rfl rfl rfl fun h2 μ2 ρ2 c2 O2 W2 hc2 => ?_
    refine stmt_loop T V hc (by simp at hl; omega) (fun s h => hs w s (by rw [h])) hq _ 1 rfl (by omega) (by omega) O2 (W2.eq ?_) hc2 hc1
    by_cases hlt : opOf w < 1
    · rw [if_pos hlt, show opOf w = 0 by omega]; rfl
    · rw [if_neg hlt]; rfl
end Go.Proofs.YtgdkekdedgkglaaDoor
end
