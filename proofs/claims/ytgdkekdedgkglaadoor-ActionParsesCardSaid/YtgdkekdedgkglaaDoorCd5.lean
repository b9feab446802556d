/- A deterministic heap for the model, proved sound, and walks of the program over it: part 10. No condition. -/
import Derived.Test.YtgdkekdedgkglaaDoorAb1
import Derived.Test.YtgdkekdedgkglaaDoorAb2
import Derived.Test.YtgdkekdedgkglaaDoorAb3
import Derived.Test.YtgdkekdedgkglaaDoorCd4
import Derived.Test.YtgdkekdedgkglaaDoorCd2
import Derived.Test.YtgdkekdedgkglaaDoorAb5
import Derived.Test.YtgdkekdedgkglaaDoorCd1
import Derived.Test.YtgdkekdedgkglaaDoorCd3
import Derived.Test.YtgdkekdedgkglaaDoorAb4
import Derived.Test.YtgdkekdedgkglaaDoorCards
import Derived.Test.YtgdkekdedgkglaaDoorTie
import Derived.OpenShut
import Derived.Stop.LaidTwo
set_option linter.unusedVariables false
set_option linter.unusedSimpArgs false
set_option linter.unusedSectionVars false
section
/- Numbers read from decimal digits by the library; a repeat's number. -/
namespace Go.Proofs.YtgdkekdedgkglaaDoor
open Go.Abs Go.Abs.Fo
set_option maxRecDepth 100000
attribute [local irreducible] unitAt EvQ
variable {h : AW} {μ : Paint} {ρ : Store} {Q : Value → AW → Prop}
/-- A string's bytes in a slice of their own. -/
theorem w_conv (O : Own h μ ρ) {ρ0 : Store} {ns : List Nat} {rs : List Res} (W : Pcs ρ0 ρ ns rs) {s : Str} {f : Value → AW → Prop}
    (H : ∀ h' μ' ρ' c a, Own h' μ' ρ' → Pcs ρ0 ρ' (c :: ns) (.sl a s.size 1 (ofBytes s.data.toList) :: rs) → ρ0 c = none → f (.slice a s.size s.size) h') : oP (convA P h ty_string ty_sl_uint8 (.string s)) f := by
  obtain ⟨c, hc⟩ := O.fresh
  have ha : allOne (ofBytes s.data.toList) = true := allOne_of fun v hv => by
    obtain ⟨b, _, rfl⟩ := List.mem_map.1 hv
    rfl
  have hlen : (ofBytes s.data.toList).length = s.size * 1 := by unfold ofBytes; rw [List.length_map, Nat.mul_one]; rfl
  obtain ⟨h', e, M, C⟩ := newRow_ok (h := h) (μ := μ) (c := c) (S := (· = c)) ha hlen
  unfold convA
  rw [ti_ty_string, ti_ty_sl_uint8]
  simp only
  rw [ti_ty_uint8]
  simp only
  rw [e]
  exact H _ _ _ c _ (O.step (r := .sl (some ⟨h.next, 0, none⟩) s.size 1 (ofBytes s.data.toList)) C M) (W.new hc _) (W.not0 hc)
theorem numL_step {l : List UInt8} {b : UInt8} {n v : Nat} (h : numL (b :: l) n = some v) : 48 ≤ b.toNat ∧ b.toNat ≤ 57 ∧ numL l (10 * n + (b.toNat - 48)) = some v := by
  rw [numL] at h
  split at h
  · cases h
  · rename_i hb
    exact ⟨by omega, by omega, h⟩
theorem wrap8s {b : Nat} (h1 : 48 ≤ b) (h2 : b ≤ 255) : IntKind.wrap .u8 ((b : Int) - 48) = ((b - 48 : Nat) : Int) := by
  rw [show (b : Int) - 48 = ((b - 48 : Nat) : Int) from by omega, wrap8 (by omega)]
theorem atoi_loop {s : Str} (h1 : 1 ≤ s.size) (h2 : s.size < 19) {v : Nat} (hv0 : numL s.data.toList 0 = some v) (hq : RdQ Q ρ (.tuple ⟨[.int .i64 (v : Int), .nilIface]⟩)) :
    ∀ (d k n : Nat) {h : AW} {μ : Paint} {ρ' : Store} {c : Nat} {a : Option Addr}, s.size - k = d → k ≤ s.size → n < 10 ^ k → numL (s.data.toList.drop k) n = some v → Own h μ ρ' → Pcs ρ ρ' [c] [.sl a s.size 1 (ofBytes s.data.toList)] → ρ c = none →
      unitAt P f_strconv_Atoi_78 10 [5, 6, 47, 48, 49] [.string s, .int .i64 (n : Int), .slice a s.size s.size, .int .i64 (s.size : Int), .int .i64 (k : Int)] h Q := by
  have hlen : s.data.toList.length = s.size := rfl
  intro d
  induction d with
  | zero =>
    intro k n h μ ρ' c a hd hk hn hv O W hc
    refine r_strconv_Atoi_78_10 ?_
    rw [geI (by omega)]
    simp only [oB_some, bC_true, bC_false, vInt_int, vBool_bool, vStr_string, vPtr_pointer, vSl_slice, vMap_map, vFun_func, vAgg_agg, vTup_tuple, vIfc_nil, vIfc_iface, lC_cons, lN_nil, aP_some, shO_none, shO_some, Option.isNone_none, Option.isNone_some, Bool.not_true, Bool.not_false]
    rw [List.drop_eq_nil_of_le (by omega), numL] at hv
    simp only [Option.some.injEq] at hv
    subst hv
    rw [show natIdx 0 s.size = some 0 from natIdx_eq (j := 0) (by omega)]
    simp only [oB_some, bC_true, bC_false, vInt_int, vBool_bool, vStr_string, vPtr_pointer, vSl_slice, vMap_map, vFun_func, vAgg_agg, vTup_tuple, vIfc_nil, vIfc_iface, lC_cons, lN_nil, aP_some, shO_none, shO_some, Option.isNone_none, Option.isNone_some, Bool.not_true, Bool.not_false]
    have h0 : 0 < s.data.toList.length := by omega
    have hb : bAt s 0 = some ((s.data.toList[0]).toNat : Int) := by
      unfold bAt
      rw [Array.getElem?_eq_getElem (by exact h0)]
      simp
    refine oB_bind hb ?_
    have hd0 : 48 ≤ (s.data.toList[0]).toNat := by
      have : s.data.toList = s.data.toList[0] :: s.data.toList.drop 1 := by rw [← List.drop_eq_getElem_cons h0, List.drop_zero]
      rw [this] at hv0
      exact (numL_step hv0).1
    rw [show ((((s.data.toList[0]).toNat : Nat) : Int) == 45) = false from by rw [beq_eq_false_iff_ne]; omega]
    simp only [oB_some, bC_true, bC_false, vInt_int, vBool_bool, vStr_string, vPtr_pointer, vSl_slice, vMap_map, vFun_func, vAgg_agg, vTup_tuple, vIfc_nil, vIfc_iface, lC_cons, lN_nil, aP_some, shO_none, shO_some, Option.isNone_none, Option.isNone_some, Bool.not_true, Bool.not_false]
    exact hq _ _ _ O (W.fra0 fun c' hc' => by simp at hc'; rw [hc']; exact hc)
  | succ d ih =>
    intro k n h μ ρ' c a hd hk hn hv O W hc
    have hlt : k < s.size := by omega
    have hlt' : k < s.data.toList.length := by omega
    refine r_strconv_Atoi_78_10 ?_
    rw [ltI hlt]
    simp only [oB_some, bC_true, bC_false, vInt_int, vBool_bool, vStr_string, vPtr_pointer, vSl_slice, vMap_map, vFun_func, vAgg_agg, vTup_tuple, vIfc_nil, vIfc_iface, lC_cons, lN_nil, aP_some, shO_none, shO_some, Option.isNone_none, Option.isNone_some, Bool.not_true, Bool.not_false]
    rw [List.drop_eq_getElem_cons hlt'] at hv
    have hg : (ofBytes s.data.toList)[k]? = some (.int .u8 ((s.data.toList[k]).toNat : Int)) := by
      unfold ofBytes
      rw [List.getElem?_map, List.getElem?_eq_getElem hlt']; rfl
    obtain ⟨b1, b2, hv2⟩ := numL_step hv
    refine (w_sl O W 0 rfl).i1 rfl (by unfold ofBytes; rw [List.length_map]; rfl) hg ?_
    simp only [oB_some, bC_true, bC_false, vInt_int, vBool_bool, vStr_string, vPtr_pointer, vSl_slice, vMap_map, vFun_func, vAgg_agg, vTup_tuple, vIfc_nil, vIfc_iface, lC_cons, lN_nil, aP_some, shO_none, shO_some, Option.isNone_none, Option.isNone_some, Bool.not_true, Bool.not_false]
    rw [wrap8s b1 (by omega)]
    rw [show decide ((((s.data.toList[k]).toNat - 48 : Nat) : Int) > 9) = false from decide_eq_false (by omega)]
    simp only [oB_some, bC_true, bC_false, vInt_int, vBool_bool, vStr_string, vPtr_pointer, vSl_slice, vMap_map, vFun_func, vAgg_agg, vTup_tuple, vIfc_nil, vIfc_iface, lC_cons, lN_nil, aP_some, shO_none, shO_some, Option.isNone_none, Option.isNone_some, Bool.not_true, Bool.not_false]
    have hp : 10 ^ (k + 1) ≤ 10 ^ 18 := Nat.pow_le_pow_right (by omega) (by omega)
    rw [Nat.pow_succ] at hp
    have hp2 : 10 ^ 18 = 1000000000000000000 := rfl
    have hn2 : n * 10 + 9 < 1000000000000000000 := by omega
    rw [Go.Abs.wrap_small (n := (n : Int) * 10) (by omega) (by omega), wrap_sm (n := (((s.data.toList[k]).toNat - 48 : Nat) : Int)) (by omega) (by omega), Go.Abs.wrap_small (n := (n : Int) * 10 + (((s.data.toList[k]).toNat - 48 : Nat) : Int)) (by omega) (by omega), wrapS (by omega)]
    rw [show (n : Int) * 10 + (((s.data.toList[k]).toNat - 48 : Nat) : Int) = ((10 * n + ((s.data.toList[k]).toNat - 48) : Nat) : Int) from by omega]
    exact ih (k + 1) _ (by omega) (by omega) (by rw [Nat.pow_succ]; omega) hv2 O W hc
theorem atoi_ok (O : Own h μ ρ) {s : Str} (h1 : 1 ≤ s.size) (h2 : s.size < 19) {v : Nat} (hv : numL s.data.toList 0 = some v) (hq : RdQ Q ρ (.tuple ⟨[.int .i64 (v : Int), .nilIface]⟩)) : EvQ P f_strconv_Atoi [.string s] h Q := by
  refine r_strconv_Atoi (r_strconv_Atoi_78 ?_)
  rw [show decide ((0 : Int) < (s.size : Int)) = true from decide_eq_true (by omega), show decide ((s.size : Int) < 19) = true from decide_eq_true (by omega)]
  simp only [oB_some, bC_true, bC_false, vInt_int, vBool_bool, vStr_string, vPtr_pointer, vSl_slice, vMap_map, vFun_func, vAgg_agg, vTup_tuple, vIfc_nil, vIfc_iface, lC_cons, lN_nil, aP_some, shO_none, shO_some, Option.isNone_none, Option.isNone_some, Bool.not_true, Bool.not_false]
  rw [show natIdx 0 s.size = some 0 from natIdx_eq (j := 0) (by omega)]
  simp only [oB_some, bC_true, bC_false, vInt_int, vBool_bool, vStr_string, vPtr_pointer, vSl_slice, vMap_map, vFun_func, vAgg_agg, vTup_tuple, vIfc_nil, vIfc_iface, lC_cons, lN_nil, aP_some, shO_none, shO_some, Option.isNone_none, Option.isNone_some, Bool.not_true, Bool.not_false]
  have h0 : 0 < s.data.toList.length := h1
  have hb : bAt s 0 = some ((s.data.toList[0]).toNat : Int) := by
    unfold bAt
    rw [Array.getElem?_eq_getElem (by exact h0)]
    simp
  have hd0 : 48 ≤ (s.data.toList[0]).toNat := by
    have : s.data.toList = s.data.toList[0] :: s.data.toList.drop 1 := by rw [← List.drop_eq_getElem_cons h0, List.drop_zero]
    rw [this] at hv
    exact (numL_step hv).1
  refine oB_bind hb ?_
  rw [show ((((s.data.toList[0]).toNat : Nat) : Int) == 45) = false from by rw [beq_eq_false_iff_ne]; omega]
  simp only [oB_some, bC_true, bC_false, vInt_int, vBool_bool, vStr_string, vPtr_pointer, vSl_slice, vMap_map, vFun_func, vAgg_agg, vTup_tuple, vIfc_nil, vIfc_iface, lC_cons, lN_nil, aP_some, shO_none, shO_some, Option.isNone_none, Option.isNone_some, Bool.not_true, Bool.not_false]
  refine oB_bind hb ?_
  rw [show ((((s.data.toList[0]).toNat : Nat) : Int) == 43) = false from by rw [beq_eq_false_iff_ne]; omega]
  simp only [oB_some, bC_true, bC_false, vInt_int, vBool_bool, vStr_string, vPtr_pointer, vSl_slice, vMap_map, vFun_func, vAgg_agg, vTup_tuple, vIfc_nil, vIfc_iface, lC_cons, lN_nil, aP_some, shO_none, shO_some, Option.isNone_none, Option.isNone_some, Bool.not_true, Bool.not_false]
  refine r_strconv_Atoi_78_8 ?_
  refine w_conv O p00 fun h5 μ2 ρ2 c a O2 W2 hc => ?_
  simp only [oB_some, bC_true, bC_false, vInt_int, vBool_bool, vStr_string, vPtr_pointer, vSl_slice, vMap_map, vFun_func, vAgg_agg, vTup_tuple, vIfc_nil, vIfc_iface, lC_cons, lN_nil, aP_some, shO_none, shO_some, Option.isNone_none, Option.isNone_some, Bool.not_true, Bool.not_false]
  refine atoi_loop h1 h2 hv (fun h3 μ3 ρ3 O3 F3 => ?_) _ 0 0 rfl (by omega) (by simp) hv O2 W2 hc
  simp only [oB_some, bC_true, bC_false, vInt_int, vBool_bool, vStr_string, vPtr_pointer, vSl_slice, vMap_map, vFun_func, vAgg_agg, vTup_tuple, vIfc_nil, vIfc_iface, lC_cons, lN_nil, aP_some, shO_none, shO_some, Option.isNone_none, Option.isNone_some, Bool.not_true, Bool.not_false]
  exact hq _ _ _ O3 F3
theorem digS_len : ∀ k : Fin 1001, (digS k.1).size ≤ 4 ∧ 1 ≤ (digS k.1).size := by decide +kernel
/-- Words of decimal digits. -/
def Digs (s : Str) : Prop := 1 ≤ s.size ∧ s.size < 19 ∧ ∃ v, numL s.data.toList 0 = some v
theorem number_digits (O : Own h μ ρ) (T : Vw ρ [] (some ⟨2, 0, none⟩) pow10) {s : Str} (hs : Digs s) (hq : RdQ Q ρ (.int .i64 (numM s))) : EvQ P f_action_number [.string s] h Q := by
  obtain ⟨h1, h2, v, hv⟩ := hs
  refine r_action_number ?_
  refine atoi_ok O h1 h2 hv fun h3 μ3 ρ3 O3 F3 => ?_
  simp only [oB_some, bC_true, bC_false, vInt_int, vBool_bool, vStr_string, vPtr_pointer, vSl_slice, vMap_map, vFun_func, vAgg_agg, vTup_tuple, vIfc_nil, vIfc_iface, lC_cons, lN_nil, aP_some, shO_none, shO_some, Option.isNone_none, Option.isNone_some, Bool.not_true, Bool.not_false]
  rw [show decide ((v : Int) < 0) = false from decide_eq_false (by omega)]
  simp only [oB_some, bC_true, bC_false, vInt_int, vBool_bool, vStr_string, vPtr_pointer, vSl_slice, vMap_map, vFun_func, vAgg_agg, vTup_tuple, vIfc_nil, vIfc_iface, lC_cons, lN_nil, aP_some, shO_none, shO_some, Option.isNone_none, Option.isNone_some, Bool.not_true, Bool.not_false]
  have hnone : 4 < s.size → numM s = -1 := fun hh => by
    unfold numM; rw [if_pos (.inr hh)]
  refine bC_iff (fun e => ?_) (fun e => ?_)
  · have e : v > 1000 := by have := of_decide_eq_true e; omega
    have : numM s = -1 := by
      by_cases hh : 4 < s.size
      · exact hnone hh
      · unfold numM
        rw [if_neg (by omega), hv]
        simp only
        rw [if_pos (.inl e)]
    rw [this] at hq
    exact hq _ _ _ O3 F3
  have e : v ≤ 1000 := by have := of_decide_eq_false e; omega
  refine itoa_ok O3 (T.keep F3) e fun h4 μ4 ρ4 O4 F4 => ?_
  simp only [oB_some, bC_true, bC_false, vInt_int, vBool_bool, vStr_string, vPtr_pointer, vSl_slice, vMap_map, vFun_func, vAgg_agg, vTup_tuple, vIfc_nil, vIfc_iface, lC_cons, lN_nil, aP_some, shO_none, shO_some, Option.isNone_none, Option.isNone_some, Bool.not_true, Bool.not_false]
  refine bC_iff (fun e2 => ?_) (fun e2 => ?_)
  · have e2 : digS v ≠ s := bEq_false.1 (nb e2)
    have : numM s = -1 := by
      by_cases hh : 4 < s.size
      · exact hnone hh
      · unfold numM
        rw [if_neg (by omega), hv]
        simp only
        rw [if_pos (.inr e2)]
    rw [this] at hq
    exact hq _ _ _ O4 (F3.trans F4)
  · have e2 : digS v = s := bEq_iff.1 (nb' e2)
    have hl := digS_len ⟨v, by omega⟩
    simp only [e2] at hl
    have : numM s = v := by
      unfold numM
      rw [if_neg (by omega), hv]
      simp only
      rw [if_neg (by
        rintro (x | x)
        · omega
        · exact x e2)]
    rw [this] at hq
    exact hq _ _ _ O4 (F3.trans F4)
end Go.Proofs.YtgdkekdedgkglaaDoor
end

section
/- A string's copy; the library's errors. -/
namespace Go.Proofs.YtgdkekdedgkglaaDoor
open Go.Abs Go.Abs.Fo
set_option maxRecDepth 100000
attribute [local irreducible] unitAt EvQ
variable {h : AW} {μ : Paint} {ρ : Store} {Q : Value → AW → Prop}
theorem ti_p_u8 : tiOf P ty_p_uint8 = some ⟨.pointer ty_uint8, false, 1, 8, some (.pointer none)⟩ := by kernel_rfl
theorem lib_clone (O : Own h μ ρ) {s : Str} (hs : s.size ≤ 70368744177664) (hq : RdQ Q ρ (.string s)) : EvQ P f_stringslite_Clone [.string s] h Q := by
  refine r_stringslite_Clone ?_
  refine bC_iff (fun e => ?_) (fun e => ?_)
  · have e : s.size = 0 := by simpa using e
    have : s = ⟨#[]⟩ := by
      apply ByteArray.ext
      exact Array.eq_empty_of_size_eq_zero e
    rw [this] at hq
    exact hq.now O
  have e : s.size ≠ 0 := by simpa using e
  have hrep : ∀ n, allOne (rep [Value.int .u8 0] n) = true := fun n => allOne_of fun v hv => by
    have : ∀ n, ∀ v, v ∈ rep [Value.int .u8 0] n → v = .int .u8 0 := by
      intro n
      induction n with
      | zero => intro v hv; cases hv
      | succ n ih =>
        intro v hv
        rcases List.mem_append.1 hv with x | x
        · simpa using x
        · exact ih v x
    rw [this n v hv]; rfl
  refine w_makeT O p00 ti_ty_sl_uint8 ti_ty_uint8 s.size rfl (hrep _) (by omega) (by omega) fun h1 μ1 ρ1 c d i O1 W1 hc hd => ?_
  simp only [oB_some, bC_true, bC_false, vInt_int, vBool_bool, vStr_string, vPtr_pointer, vSl_slice, vMap_map, vFun_func, vAgg_agg, vTup_tuple, vIfc_nil, vIfc_iface, lC_cons, lN_nil, aP_some, shO_none, shO_some, Option.isNone_none, Option.isNone_some, Bool.not_true, Bool.not_false]
  refine w_copyStr (P := P) O1 W1 0 rfl (by rw [rep_length]; simp [Value.cells]) ti_ty_sl_uint8 ti_ty_uint8 fun h2 ρ2 O2 W2 => ?_
  simp only [oB_some, bC_true, bC_false, vInt_int, vBool_bool, vStr_string, vPtr_pointer, vSl_slice, vMap_map, vFun_func, vAgg_agg, vTup_tuple, vIfc_nil, vIfc_iface, lC_cons, lN_nil, aP_some, shO_none, shO_some, Option.isNone_none, Option.isNone_some, Bool.not_true, Bool.not_false]
  rw [show natIdx 0 s.size = some 0 from natIdx_eq (j := 0) (by omega)]
  simp only [oB_some, bC_true, bC_false, vInt_int, vBool_bool, vStr_string, vPtr_pointer, vSl_slice, vMap_map, vFun_func, vAgg_agg, vTup_tuple, vIfc_nil, vIfc_iface, lC_cons, lN_nil, aP_some, shO_none, shO_some, Option.isNone_none, Option.isNone_some, Bool.not_true, Bool.not_false]
  have hl : s.data.toList.length = s.size := rfl
  refine w_ustr (P := P) (bs := s.data.toList) O2 W2 hc hd ti_p_u8 ti_ty_uint8 rfl rfl (by intro x; rw [x] at hl; simp at hl; omega) (by omega) fun h3 ρ3 O3 W3 => ?_
  simp only [oB_some, bC_true, bC_false, vInt_int, vBool_bool, vStr_string, vPtr_pointer, vSl_slice, vMap_map, vFun_func, vAgg_agg, vTup_tuple, vIfc_nil, vIfc_iface, lC_cons, lN_nil, aP_some, shO_none, shO_some, Option.isNone_none, Option.isNone_some, Bool.not_true, Bool.not_false]
  exact hq _ _ _ O3 (W3.fra0 fun c hc => by cases hc)
/-- One of the library's errors stands at a package variable. -/
def Err1 (ρ : Store) (g : Nat) : Prop := ∃ t v, Vw ρ [] (some ⟨g, 0, none⟩) [.iface t v] ∧ ifcB v = true
theorem Err1.keep {ρ ρ' : Store} {g : Nat} (E : Err1 ρ g) (F : Fra [] ρ ρ') : Err1 ρ' g := by
  obtain ⟨t, v, h1, h2⟩ := E
  exact ⟨t, v, h1.keep F, h2⟩
theorem err_rd (O : Own h μ ρ) {g : Nat} {t : TypeId} {v : Value} (V : Vw ρ [] (some ⟨g, 0, none⟩) [.iface t v]) : h.rd g 0 = some (.iface t v) := by
  have := Fo.Sl.get (j := 0) (v := .iface t v) (V.sl O) rfl
  simpa using this
theorem syntax_ok (O : Own h μ ρ) (E : Err1 ρ 0) {w s : Str} (hs : s.size ≤ 70368744177664) (hq : ∀ h' μ' ρ' p, Own h' μ' ρ' → Fra [] ρ ρ' → Q (.pointer p) h') : EvQ P f_strconv_syntaxError [.string w, .string s] h Q := by
  refine r_strconv_syntaxError ?_
  refine lib_clone O hs fun h1 μ1 ρ1 O1 F1 => ?_
  simp only [oB_some, bC_true, bC_false, vInt_int, vBool_bool, vStr_string, vPtr_pointer, vSl_slice, vMap_map, vFun_func, vAgg_agg, vTup_tuple, vIfc_nil, vIfc_iface, lC_cons, lN_nil, aP_some, shO_none, shO_some, Option.isNone_none, Option.isNone_some, Bool.not_true, Bool.not_false]
  obtain ⟨t, v, V, hi⟩ := E
  refine oB_bind (err_rd O1 (V.keep F1)) ?_
  simp only [oB_some, bC_true, bC_false, vInt_int, vBool_bool, vStr_string, vPtr_pointer, vSl_slice, vMap_map, vFun_func, vAgg_agg, vTup_tuple, vIfc_nil, vIfc_iface, lC_cons, lN_nil, aP_some, shO_none, shO_some, Option.isNone_none, Option.isNone_some, Bool.not_true, Bool.not_false]
  refine ⟨hi, oB_bind (err_rd O V) ?_⟩
  simp only [oB_some, bC_true, bC_false, vInt_int, vBool_bool, vStr_string, vPtr_pointer, vSl_slice, vMap_map, vFun_func, vAgg_agg, vTup_tuple, vIfc_nil, vIfc_iface, lC_cons, lN_nil, aP_some, shO_none, shO_some, Option.isNone_none, Option.isNone_some, Bool.not_true, Bool.not_false]
  refine ⟨trivial, ?_⟩
  obtain ⟨μ2, ρ2, c, O2, W2, hc⟩ := w_new O1 p00 [.string w, .string s, .iface t v]
  exact hq _ _ _ _ O2 (F1.trans (W2.fra0 fun d hd => by simp at hd; rw [hd]; exact hc))
theorem range_ok (O : Own h μ ρ) (E : Err1 ρ 1) {w s : Str} (hs : s.size ≤ 70368744177664) (hq : ∀ h' μ' ρ' p, Own h' μ' ρ' → Fra [] ρ ρ' → Q (.pointer p) h') : EvQ P f_strconv_rangeError [.string w, .string s] h Q := by
  refine r_strconv_rangeError ?_
  refine lib_clone O hs fun h1 μ1 ρ1 O1 F1 => ?_
  simp only [oB_some, bC_true, bC_false, vInt_int, vBool_bool, vStr_string, vPtr_pointer, vSl_slice, vMap_map, vFun_func, vAgg_agg, vTup_tuple, vIfc_nil, vIfc_iface, lC_cons, lN_nil, aP_some, shO_none, shO_some, Option.isNone_none, Option.isNone_some, Bool.not_true, Bool.not_false]
  obtain ⟨t, v, V, hi⟩ := E
  refine oB_bind (err_rd O1 (V.keep F1)) ?_
  simp only [oB_some, bC_true, bC_false, vInt_int, vBool_bool, vStr_string, vPtr_pointer, vSl_slice, vMap_map, vFun_func, vAgg_agg, vTup_tuple, vIfc_nil, vIfc_iface, lC_cons, lN_nil, aP_some, shO_none, shO_some, Option.isNone_none, Option.isNone_some, Bool.not_true, Bool.not_false]
  refine ⟨hi, oB_bind (err_rd O V) ?_⟩
  simp only [oB_some, bC_true, bC_false, vInt_int, vBool_bool, vStr_string, vPtr_pointer, vSl_slice, vMap_map, vFun_func, vAgg_agg, vTup_tuple, vIfc_nil, vIfc_iface, lC_cons, lN_nil, aP_some, shO_none, shO_some, Option.isNone_none, Option.isNone_some, Bool.not_true, Bool.not_false]
  refine ⟨trivial, ?_⟩
  obtain ⟨μ2, ρ2, c, O2, W2, hc⟩ := w_new O1 p00 [.string w, .string s, .iface t v]
  exact hq _ _ _ _ O2 (F1.trans (W2.fra0 fun d hd => by simp at hd; rw [hd]; exact hc))
/-- Both errors of the library. -/
structure Errs (ρ : Store) : Prop where
  syn : Err1 ρ 0
  rng : Err1 ρ 1
theorem Errs.keep {ρ ρ' : Store} (E : Errs ρ) (F : Fra [] ρ ρ') : Errs ρ' := ⟨E.syn.keep F, E.rng.keep F⟩
theorem same_err : ∀ k c : Fin 5, eqV P ty_error false (.iface ty_strconv_Error (.int .i64 (k.1 : Int))) (.iface ty_strconv_Error (.int .i64 (c.1 : Int))) = some (decide (k = c)) := by
  have key : ∀ k c : Int, eqV P ty_error false (.iface ty_strconv_Error (.int .i64 k)) (.iface ty_strconv_Error (.int .i64 c)) = some (k == c) := fun k c => by kernel_rfl
  intro k c
  rw [key]
  congr 1
  rw [Bool.eq_iff_iff]
  simp only [beq_iff_eq, decide_eq_true_eq]
  constructor
  · intro e; apply Fin.ext; omega
  · intro e; rw [e]
/-- An error of a number becomes an error of the package. -/
theorem toError_ok (O : Own h μ ρ) (E : Errs ρ) {w s : Str} (hs : s.size ≤ 70368744177664) {k : Nat} (h1 : k = 1 ∨ k = 2) (hq : ∀ h' μ' ρ' t p, Own h' μ' ρ' → Fra [] ρ ρ' → Q (.iface t (.pointer p)) h') : EvQ P f_strconv_toError [.string w, .string s, .int .i64 0, .int .i64 0, .iface ty_strconv_Error (.int .i64 (k : Int))] h Q := by
  refine r_strconv_toError ?_
  rcases h1 with rfl | rfl
  · refine oB_bind (same_err 1 2) ?_
    show bC false _ _
    simp only [bC_false]
    refine oB_bind (same_err 1 1) ?_
    show bC true _ _
    simp only [bC_true]
    refine range_ok O E.rng hs fun h1 μ1 ρ1 p O1 F1 => ?_
    simp only [oB_some, bC_true, bC_false, vInt_int, vBool_bool, vStr_string, vPtr_pointer, vSl_slice, vMap_map, vFun_func, vAgg_agg, vTup_tuple, vIfc_nil, vIfc_iface, lC_cons, lN_nil, aP_some, shO_none, shO_some, Option.isNone_none, Option.isNone_some, Bool.not_true, Bool.not_false]
    exact hq _ _ _ _ _ O1 F1
  · refine oB_bind (same_err 2 2) ?_
    show bC true _ _
    simp only [bC_true]
    refine syntax_ok O E.syn hs fun h1 μ1 ρ1 p O1 F1 => ?_
    simp only [oB_some, bC_true, bC_false, vInt_int, vBool_bool, vStr_string, vPtr_pointer, vSl_slice, vMap_map, vFun_func, vAgg_agg, vTup_tuple, vIfc_nil, vIfc_iface, lC_cons, lN_nil, aP_some, shO_none, shO_some, Option.isNone_none, Option.isNone_some, Bool.not_true, Bool.not_false]
    exact hq _ _ _ _ _ O1 F1
end Go.Proofs.YtgdkekdedgkglaaDoor
end

section
/- Numbers read by the library from any word. -/
namespace Go.Proofs.YtgdkekdedgkglaaDoor
open Go.Abs Go.Abs.Fo
set_option maxRecDepth 100000
attribute [local irreducible] unitAt EvQ
variable {h : AW} {μ : Paint} {ρ : Store} {Q : Value → AW → Prop}
theorem lower_any {n : Int} (hq : ∀ m, Q (.int .u8 m) h) : EvQ P f_strconv_lower [.int .u8 n] h Q := r_strconv_lower (hq _)
/-- Whatever number, or an error. -/
structure UQ (Q : Value → AW → Prop) (ρ : Store) (k : IntKind) : Prop where
  ok : ∀ n, RdQ Q ρ (.tuple ⟨[.int k n, .nilIface]⟩)
  er : ∀ n (e : Nat), e = 1 ∨ e = 2 → RdQ Q ρ (.tuple ⟨[.int k n, .iface ty_strconv_Error (.int .i64 (e : Int))]⟩)
theorem uint_loop {s s3 : Str} {n4 n5 : Int} (hs : s.size ≤ 70368744177664) (U : UQ Q ρ .u64) :
    ∀ (d k : Nat) {n7 : Int} {h : AW} {μ : Paint} {ρ' : Store} {c : Nat} {a : Option Addr}, s.size - k = d → k ≤ s.size → Own h μ ρ' → Pcs ρ ρ' [c] [.sl a s.size 1 (ofBytes s.data.toList)] → ρ c = none →
      unitAt P f_strconv_ParseUint 36 [1, 8, 9, 10, 11, 12, 13, 99, 100, 101] [.int .i64 10, .bool false, .string s3, .int .u64 n4, .int .u64 n5, .bool false, .int .u64 n7, .slice a s.size s.size, .int .i64 (s.size : Int), .int .i64 (k : Int)] h Q := by
  have hlen : s.data.toList.length = s.size := rfl
  intro d
  induction d with
  | zero =>
    intro k n7 h μ ρ' c a hd hk O W hc
    refine r_strconv_ParseUint_36 ?_
    rw [geI (by omega)]
    simp only [oB_some, bC_true, bC_false, vInt_int, vBool_bool, vStr_string, vPtr_pointer, vSl_slice, vMap_map, vFun_func, vAgg_agg, vTup_tuple, vIfc_nil, vIfc_iface, lC_cons, lN_nil, aP_some, shO_none, shO_some, Option.isNone_none, Option.isNone_some, Bool.not_true, Bool.not_false]
    exact (U.ok _) _ _ _ O (W.fra0 fun c' hc' => by simp at hc'; rw [hc']; exact hc)
  | succ d ih =>
    intro k n7 h μ ρ' c a hd hk O W hc
    have hlt : k < s.size := by omega
    have hlt' : k < s.data.toList.length := by omega
    have F : Fra [] ρ ρ' := W.fra0 fun c' hc' => by simp at hc'; rw [hc']; exact hc
    have er : ∀ n (e : Nat), e = 1 ∨ e = 2 → Q (.tuple ⟨[.int .u64 n, .iface ty_strconv_Error (.int .i64 (e : Int))]⟩) h := fun n e he => U.er n e he _ _ _ O F
    have u46 : ∀ n8 : Int, unitAt P f_strconv_ParseUint 46 [1, 8, 9, 10, 11, 12, 13, 16, 99, 100, 101] [.int .i64 10, .bool false, .string s3, .int .u64 n4, .int .u64 n5, .bool false, .int .u64 n7, .int .u8 n8, .slice a s.size s.size, .int .i64 (s.size : Int), .int .i64 (k : Int)] h Q := by
      intro n8
      refine r_strconv_ParseUint_46 ?_
      refine bC_iff (fun _ => er 0 2 (.inr rfl)) (fun _ => ?_)
      refine bC_iff (fun _ => er _ 1 (.inl rfl)) (fun _ => ?_)
      refine bC_iff (fun _ => er _ 1 (.inl rfl)) (fun _ => ?_)
      refine bC_iff (fun _ => er _ 1 (.inl rfl)) (fun _ => ?_)
      rw [wrapS (by omega)]
      exact ih (k + 1) (by omega) (by omega) O W hc
    refine r_strconv_ParseUint_36 ?_
    rw [ltI hlt]
    simp only [oB_some, bC_true, bC_false, vInt_int, vBool_bool, vStr_string, vPtr_pointer, vSl_slice, vMap_map, vFun_func, vAgg_agg, vTup_tuple, vIfc_nil, vIfc_iface, lC_cons, lN_nil, aP_some, shO_none, shO_some, Option.isNone_none, Option.isNone_some, Bool.not_true, Bool.not_false]
    have hg : (ofBytes s.data.toList)[k]? = some (.int .u8 ((s.data.toList[k]).toNat : Int)) := by
      unfold ofBytes
      rw [List.getElem?_map, List.getElem?_eq_getElem hlt']; rfl
    refine (w_sl O W 0 rfl).i1 rfl (by unfold ofBytes; rw [List.length_map]; rfl) hg ?_
    simp only [oB_some, bC_true, bC_false, vInt_int, vBool_bool, vStr_string, vPtr_pointer, vSl_slice, vMap_map, vFun_func, vAgg_agg, vTup_tuple, vIfc_nil, vIfc_iface, lC_cons, lN_nil, aP_some, shO_none, shO_some, Option.isNone_none, Option.isNone_some, Bool.not_true, Bool.not_false]
    repeat' (first | exact u46 _ | exact er 0 2 (.inr rfl) | refine bC_iff (fun _ => ?_) (fun _ => ?_) | (refine lower_any fun m => ?_; simp only [oB_some, bC_true, bC_false, vInt_int, vBool_bool, vStr_string, vPtr_pointer, vSl_slice, vMap_map, vFun_func, vAgg_agg, vTup_tuple, vIfc_nil, vIfc_iface, lC_cons, lN_nil, aP_some, shO_none, shO_some, Option.isNone_none, Option.isNone_some, Bool.not_true, Bool.not_false]))
theorem uint_any (O : Own h μ ρ) {s : Str} (hs : s.size ≤ 70368744177664) (U : UQ Q ρ .u64) : EvQ P f_strconv_ParseUint [.string s, .int .i64 10, .int .i64 0] h Q := by
  refine r_strconv_ParseUint ?_
  refine bC_iff (fun _ => U.er 0 2 (.inr rfl) _ _ _ O Fra.refl) (fun _ => ?_)
  rw [show decide ((2 : Int) ≤ 10) = true from rfl, show decide ((10 : Int) ≤ 36) = true from rfl, show ((10 : Int) == 0) = false from rfl]
  simp only [oB_some, bC_true, bC_false, vInt_int, vBool_bool, vStr_string, vPtr_pointer, vSl_slice, vMap_map, vFun_func, vAgg_agg, vTup_tuple, vIfc_nil, vIfc_iface, lC_cons, lN_nil, aP_some, shO_none, shO_some, Option.isNone_none, Option.isNone_some, Bool.not_true, Bool.not_false]
  refine r_strconv_ParseUint_21 ?_
  rw [show ((0 : Int) == 0) = true from rfl]
  simp only [oB_some, bC_true, bC_false, vInt_int, vBool_bool, vStr_string, vPtr_pointer, vSl_slice, vMap_map, vFun_func, vAgg_agg, vTup_tuple, vIfc_nil, vIfc_iface, lC_cons, lN_nil, aP_some, shO_none, shO_some, Option.isNone_none, Option.isNone_some, Bool.not_true, Bool.not_false]
  refine r_strconv_ParseUint_25 ?_
  rw [show ((10 : Int) == 10) = true from rfl]
  simp only [oB_some, bC_true, bC_false, vInt_int, vBool_bool, vStr_string, vPtr_pointer, vSl_slice, vMap_map, vFun_func, vAgg_agg, vTup_tuple, vIfc_nil, vIfc_iface, lC_cons, lN_nil, aP_some, shO_none, shO_some, Option.isNone_none, Option.isNone_some, Bool.not_true, Bool.not_false]
  refine r_strconv_ParseUint_32 ?_
  rw [show decide (IntKind.wrap IntKind.u64 64 < 0) = false from rfl]
  simp only [oB_some, bC_true, bC_false, vInt_int, vBool_bool, vStr_string, vPtr_pointer, vSl_slice, vMap_map, vFun_func, vAgg_agg, vTup_tuple, vIfc_nil, vIfc_iface, lC_cons, lN_nil, aP_some, shO_none, shO_some, Option.isNone_none, Option.isNone_some, Bool.not_true, Bool.not_false]
  refine w_conv O p00 fun h1 μ1 ρ1 c a O1 W1 hc => ?_
  simp only [oB_some, bC_true, bC_false, vInt_int, vBool_bool, vStr_string, vPtr_pointer, vSl_slice, vMap_map, vFun_func, vAgg_agg, vTup_tuple, vIfc_nil, vIfc_iface, lC_cons, lN_nil, aP_some, shO_none, shO_some, Option.isNone_none, Option.isNone_some, Bool.not_true, Bool.not_false]
  exact uint_loop hs U _ 0 rfl (by omega) O1 W1 hc
theorem int_16 (O : Own h μ ρ) {b : Bool} {n : Int} (U : UQ Q ρ .i64) : unitAt P f_strconv_ParseInt 16 [2, 8, 9] [.int .i64 64, .bool b, .int .u64 n] h Q := by
  refine r_strconv_ParseInt_16 ?_
  rw [show decide (IntKind.wrap IntKind.u64 (IntKind.wrap IntKind.i64 (64 - 1)) < 0) = false from rfl]
  simp only [oB_some, bC_true, bC_false, vInt_int, vBool_bool, vStr_string, vPtr_pointer, vSl_slice, vMap_map, vFun_func, vAgg_agg, vTup_tuple, vIfc_nil, vIfc_iface, lC_cons, lN_nil, aP_some, shO_none, shO_some, Option.isNone_none, Option.isNone_some, Bool.not_true, Bool.not_false]
  repeat' (first | exact U.er _ 1 (.inl rfl) _ _ _ O Fra.refl | exact U.ok _ _ _ _ O Fra.refl | refine bC_iff (fun _ => ?_) (fun _ => ?_))
theorem UQ.keep {ρ' : Store} {k : IntKind} (U : UQ Q ρ k) (F : Fra [] ρ ρ') : UQ Q ρ' k := ⟨fun n => (U.ok n).keep F, fun n e he => (U.er n e he).keep F⟩
theorem int_10 (O : Own h μ ρ) {s : Str} (hs : s.size ≤ 70368744177664) {b : Bool} (U : UQ Q ρ .i64) : unitAt P f_strconv_ParseInt 10 [0, 1, 2, 8] [.string s, .int .i64 10, .int .i64 0, .bool b] h Q := by
  refine r_strconv_ParseInt_10 ?_
  refine uint_any O hs ⟨fun n h1 μ1 ρ1 O1 F1 => ?_, fun n e he h1 μ1 ρ1 O1 F1 => ?_⟩
  · simp only [oB_some, bC_true, bC_false, vInt_int, vBool_bool, vStr_string, vPtr_pointer, vSl_slice, vMap_map, vFun_func, vAgg_agg, vTup_tuple, vIfc_nil, vIfc_iface, lC_cons, lN_nil, aP_some, shO_none, shO_some, Option.isNone_none, Option.isNone_some, Bool.not_true, Bool.not_false]
    rw [show ((0 : Int) == 0) = true from rfl]
    simp only [oB_some, bC_true, bC_false, vInt_int, vBool_bool, vStr_string, vPtr_pointer, vSl_slice, vMap_map, vFun_func, vAgg_agg, vTup_tuple, vIfc_nil, vIfc_iface, lC_cons, lN_nil, aP_some, shO_none, shO_some, Option.isNone_none, Option.isNone_some, Bool.not_true, Bool.not_false]
    exact int_16 O1 (U.keep F1)
  · simp only [oB_some, bC_true, bC_false, vInt_int, vBool_bool, vStr_string, vPtr_pointer, vSl_slice, vMap_map, vFun_func, vAgg_agg, vTup_tuple, vIfc_nil, vIfc_iface, lC_cons, lN_nil, aP_some, shO_none, shO_some, Option.isNone_none, Option.isNone_some, Bool.not_true, Bool.not_false]
    rcases he with rfl | rfl
    · refine oB_bind (same_err 1 1) ?_
      show bC false _ _
      simp only [bC_false]
      rw [show ((0 : Int) == 0) = true from rfl]
      simp only [oB_some, bC_true, bC_false, vInt_int, vBool_bool, vStr_string, vPtr_pointer, vSl_slice, vMap_map, vFun_func, vAgg_agg, vTup_tuple, vIfc_nil, vIfc_iface, lC_cons, lN_nil, aP_some, shO_none, shO_some, Option.isNone_none, Option.isNone_some, Bool.not_true, Bool.not_false]
      exact int_16 O1 (U.keep F1)
    · refine oB_bind (same_err 2 1) ?_
      show bC true _ _
      simp only [bC_true]
      exact U.er 0 2 (.inr rfl) _ _ _ O1 F1
theorem bAt_lt {s : Str} {k : Nat} (hk : k < s.size) : bAt s k = some ((s.data.toList[k]'hk).toNat : Int) := by
  unfold bAt
  rw [Array.getElem?_eq_getElem (by exact hk)]
  simp
theorem sub_size {s : Str} {a b : Nat} : (bSub s a b).size ≤ s.size := by
  show (List.take (b - a) (List.drop a s.data.toList)).length ≤ s.data.toList.length
  rw [List.length_take, List.length_drop]; omega
theorem int_any (O : Own h μ ρ) {s : Str} (hs : s.size ≤ 70368744177664) (U : UQ Q ρ .i64) : EvQ P f_strconv_ParseInt [.string s, .int .i64 10, .int .i64 0] h Q := by
  refine r_strconv_ParseInt ?_
  refine bC_iff (fun _ => U.er 0 2 (.inr rfl) _ _ _ O Fra.refl) (fun e => ?_)
  have h0 : 0 < s.size := by
    rcases Nat.eq_zero_or_pos s.size with z | z
    · have : s = ⟨#[]⟩ := ByteArray.ext (Array.eq_empty_of_size_eq_zero z)
      rw [this] at e; simp at e
    · exact z
  rw [show natIdx 0 s.size = some 0 from natIdx_eq (j := 0) h0, show natBnd 1 s.size = some 1 from natBnd_eq (j := 1) h0]
  simp only [oB_some, bC_true, bC_false, vInt_int, vBool_bool, vStr_string, vPtr_pointer, vSl_slice, vMap_map, vFun_func, vAgg_agg, vTup_tuple, vIfc_nil, vIfc_iface, lC_cons, lN_nil, aP_some, shO_none, shO_some, Option.isNone_none, Option.isNone_some, Bool.not_true, Bool.not_false]
  refine oB_bind (bAt_lt h0) ?_
  refine bC_iff (fun _ => int_10 O (Nat.le_trans sub_size hs) U) (fun _ => ?_)
  refine bC_iff (fun _ => int_10 O (Nat.le_trans sub_size hs) U) (fun _ => int_10 O hs U)
/-- The short way, for any word and any start: a number, or an error. -/
theorem any_loop {s0 s : Str} (h0 : 0 < s0.size) (hs : s.size ≤ 70368744177664) (U : UQ Q ρ .i64) :
    ∀ (d k : Nat) {n : Int} {h : AW} {μ : Paint} {ρ' : Store} {c : Nat} {a : Option Addr}, s.size - k = d → k ≤ s.size → Own h μ ρ' → Pcs ρ ρ' [c] [.sl a s.size 1 (ofBytes s.data.toList)] → ρ c = none →
      unitAt P f_strconv_Atoi_78 10 [5, 6, 47, 48, 49] [.string s0, .int .i64 n, .slice a s.size s.size, .int .i64 (s.size : Int), .int .i64 (k : Int)] h Q := by
  have hlen : s.data.toList.length = s.size := rfl
  intro d
  induction d with
  | zero =>
    intro k n h μ ρ' c a hd hk O W hc
    have F : Fra [] ρ ρ' := W.fra0 fun c' hc' => by simp at hc'; rw [hc']; exact hc
    refine r_strconv_Atoi_78_10 ?_
    rw [geI (by omega), show natIdx 0 s0.size = some 0 from natIdx_eq (j := 0) h0]
    simp only [oB_some, bC_true, bC_false, vInt_int, vBool_bool, vStr_string, vPtr_pointer, vSl_slice, vMap_map, vFun_func, vAgg_agg, vTup_tuple, vIfc_nil, vIfc_iface, lC_cons, lN_nil, aP_some, shO_none, shO_some, Option.isNone_none, Option.isNone_some, Bool.not_true, Bool.not_false]
    refine oB_bind (bAt_lt h0) ?_
    exact bC_iff (fun _ => U.ok _ _ _ _ O F) (fun _ => U.ok _ _ _ _ O F)
  | succ d ih =>
    intro k n h μ ρ' c a hd hk O W hc
    have hlt : k < s.size := by omega
    have hlt' : k < s.data.toList.length := by omega
    have F : Fra [] ρ ρ' := W.fra0 fun c' hc' => by simp at hc'; rw [hc']; exact hc
    refine r_strconv_Atoi_78_10 ?_
    rw [ltI hlt]
    simp only [oB_some, bC_true, bC_false, vInt_int, vBool_bool, vStr_string, vPtr_pointer, vSl_slice, vMap_map, vFun_func, vAgg_agg, vTup_tuple, vIfc_nil, vIfc_iface, lC_cons, lN_nil, aP_some, shO_none, shO_some, Option.isNone_none, Option.isNone_some, Bool.not_true, Bool.not_false]
    have hg : (ofBytes s.data.toList)[k]? = some (.int .u8 ((s.data.toList[k]).toNat : Int)) := by
      unfold ofBytes
      rw [List.getElem?_map, List.getElem?_eq_getElem hlt']; rfl
    refine (w_sl O W 0 rfl).i1 rfl (by unfold ofBytes; rw [List.length_map]; rfl) hg ?_
    simp only [oB_some, bC_true, bC_false, vInt_int, vBool_bool, vStr_string, vPtr_pointer, vSl_slice, vMap_map, vFun_func, vAgg_agg, vTup_tuple, vIfc_nil, vIfc_iface, lC_cons, lN_nil, aP_some, shO_none, shO_some, Option.isNone_none, Option.isNone_some, Bool.not_true, Bool.not_false]
    refine bC_iff (fun _ => U.er 0 2 (.inr rfl) _ _ _ O F) (fun _ => ?_)
    rw [wrapS (by omega)]
    exact ih (k + 1) (by omega) (by omega) O W hc
theorem atoi8_any (O : Own h μ ρ) {s0 s : Str} (h0 : 0 < s0.size) (hs : s.size ≤ 70368744177664) (U : UQ Q ρ .i64) : unitAt P f_strconv_Atoi_78 8 [0, 5] [.string s, .string s0] h Q := by
  refine r_strconv_Atoi_78_8 ?_
  refine w_conv O p00 fun h5 μ2 ρ2 c a O2 W2 hc => ?_
  simp only [oB_some, bC_true, bC_false, vInt_int, vBool_bool, vStr_string, vPtr_pointer, vSl_slice, vMap_map, vFun_func, vAgg_agg, vTup_tuple, vIfc_nil, vIfc_iface, lC_cons, lN_nil, aP_some, shO_none, shO_some, Option.isNone_none, Option.isNone_some, Bool.not_true, Bool.not_false]
  exact any_loop h0 hs U _ 0 rfl (by omega) O2 W2 hc
theorem atoi78_any (O : Own h μ ρ) {s : Str} (hs : s.size ≤ 70368744177664) (U : UQ Q ρ .i64) : EvQ P f_strconv_Atoi_78 [.string s] h Q := by
  have slow : EvQ P f_strconv_ParseInt [.string s, .int .i64 10, .int .i64 0] h fun v8 h9 => vTup v8 fun l10 => lC l10 fun v11 l12 => vInt IntKind.i64 v11 fun n13 => lC l12 fun v14 l15 =>
      vIfc v14 (lN l15 (Q (Value.tuple (Array.mk [Value.int IntKind.i64 n13, Value.nilIface])) h9)) fun m16 v17 => lN l15 (Q (Value.tuple (Array.mk [Value.int IntKind.i64 n13, Value.iface m16 v17])) h9) := by
    refine int_any O hs ⟨fun n h1 μ1 ρ1 O1 F1 => ?_, fun n e he h1 μ1 ρ1 O1 F1 => ?_⟩
    · simp only [oB_some, bC_true, bC_false, vInt_int, vBool_bool, vStr_string, vPtr_pointer, vSl_slice, vMap_map, vFun_func, vAgg_agg, vTup_tuple, vIfc_nil, vIfc_iface, lC_cons, lN_nil, aP_some, shO_none, shO_some, Option.isNone_none, Option.isNone_some, Bool.not_true, Bool.not_false]
      exact U.ok _ _ _ _ O1 F1
    · simp only [oB_some, bC_true, bC_false, vInt_int, vBool_bool, vStr_string, vPtr_pointer, vSl_slice, vMap_map, vFun_func, vAgg_agg, vTup_tuple, vIfc_nil, vIfc_iface, lC_cons, lN_nil, aP_some, shO_none, shO_some, Option.isNone_none, Option.isNone_some, Bool.not_true, Bool.not_false]
      exact U.er _ e he _ _ _ O1 F1
  refine r_strconv_Atoi_78 ?_
  refine bC_iff (fun e => ?_) (fun _ => slow)
  have h0 : 0 < s.size := by have := of_decide_eq_true e; omega
  refine bC_iff (fun _ => ?_) (fun _ => slow)
  rw [show natIdx 0 s.size = some 0 from natIdx_eq (j := 0) h0, show natBnd 1 s.size = some 1 from natBnd_eq (j := 1) h0]
  simp only [oB_some, bC_true, bC_false, vInt_int, vBool_bool, vStr_string, vPtr_pointer, vSl_slice, vMap_map, vFun_func, vAgg_agg, vTup_tuple, vIfc_nil, vIfc_iface, lC_cons, lN_nil, aP_some, shO_none, shO_some, Option.isNone_none, Option.isNone_some, Bool.not_true, Bool.not_false]
  refine oB_bind (bAt_lt h0) ?_
  have er := fun n => U.er n 2 (.inr rfl) _ _ _ O Fra.refl
  refine bC_iff (fun _ => ?_) (fun _ => ?_)
  · exact bC_iff (fun _ => er _) (fun _ => atoi8_any O h0 (Nat.le_trans sub_size hs) U)
  · refine oB_bind (bAt_lt h0) ?_
    refine bC_iff (fun _ => ?_) (fun _ => atoi8_any O h0 hs U)
    exact bC_iff (fun _ => er _) (fun _ => atoi8_any O h0 (Nat.le_trans sub_size hs) U)
/-- Whatever the library makes of a word: some number, or an error. -/
theorem atoi_any (O : Own h μ ρ) (E : Errs ρ) {s : Str} (hs : s.size ≤ 70368744177664) (h1 : ∀ n, RdQ Q ρ (.tuple ⟨[.int .i64 n, .nilIface]⟩)) (h2 : ∀ n t p, RdQ Q ρ (.tuple ⟨[.int .i64 n, .iface t (.pointer p)]⟩)) : EvQ P f_strconv_Atoi [.string s] h Q := by
  refine r_strconv_Atoi ?_
  refine atoi78_any O hs ⟨fun n h3 μ3 ρ3 O3 F3 => ?_, fun n e he h3 μ3 ρ3 O3 F3 => ?_⟩
  · simp only [oB_some, bC_true, bC_false, vInt_int, vBool_bool, vStr_string, vPtr_pointer, vSl_slice, vMap_map, vFun_func, vAgg_agg, vTup_tuple, vIfc_nil, vIfc_iface, lC_cons, lN_nil, aP_some, shO_none, shO_some, Option.isNone_none, Option.isNone_some, Bool.not_true, Bool.not_false]
    exact h1 _ _ _ _ O3 F3
  · simp only [oB_some, bC_true, bC_false, vInt_int, vBool_bool, vStr_string, vPtr_pointer, vSl_slice, vMap_map, vFun_func, vAgg_agg, vTup_tuple, vIfc_nil, vIfc_iface, lC_cons, lN_nil, aP_some, shO_none, shO_some, Option.isNone_none, Option.isNone_some, Bool.not_true, Bool.not_false]
    refine toError_ok O3 (E.keep F3) hs he fun h4 μ4 ρ4 t p O4 F4 => ?_
    simp only [oB_some, bC_true, bC_false, vInt_int, vBool_bool, vStr_string, vPtr_pointer, vSl_slice, vMap_map, vFun_func, vAgg_agg, vTup_tuple, vIfc_nil, vIfc_iface, lC_cons, lN_nil, aP_some, shO_none, shO_some, Option.isNone_none, Option.isNone_some, Bool.not_true, Bool.not_false]
    exact h2 _ _ _ _ _ _ O4 (F3.trans F4)
theorem numM_bad {s : Str} (hd : ¬ ∃ v, v ≤ 1000 ∧ digS v = s) : numM s = -1 := by
  unfold numM
  split
  · rfl
  · split
    · rfl
    · rename_i n _
      rw [if_pos]
      by_cases h : n > 1000
      · exact .inl h
      · exact .inr fun e => hd ⟨n, by omega, e⟩
theorem numL_dig : ∀ k : Fin 1001, numL (digS k.1).data.toList 0 = some k.1 := by decide +kernel
theorem number_any (O : Own h μ ρ) (E : Errs ρ) (T : Vw ρ [] (some ⟨2, 0, none⟩) pow10) {s : Str} (hs : s.size ≤ 70368744177664) (hq : RdQ Q ρ (.int .i64 (numM s))) : EvQ P f_action_number [.string s] h Q := by
  by_cases hd : ∃ v, v ≤ 1000 ∧ digS v = s
  · obtain ⟨v, hv, rfl⟩ := hd
    have hl := digS_len ⟨v, by omega⟩
    simp only at hl
    exact number_digits O T ⟨hl.2, by omega, v, numL_dig ⟨v, by omega⟩⟩ hq
  · rw [numM_bad hd] at hq
    refine r_action_number ?_
    refine atoi_any O E hs (fun n h3 μ3 ρ3 O3 F3 => ?_) (fun n t p h3 μ3 ρ3 O3 F3 => ?_)
    · simp only [oB_some, bC_true, bC_false, vInt_int, vBool_bool, vStr_string, vPtr_pointer, vSl_slice, vMap_map, vFun_func, vAgg_agg, vTup_tuple, vIfc_nil, vIfc_iface, lC_cons, lN_nil, aP_some, shO_none, shO_some, Option.isNone_none, Option.isNone_some, Bool.not_true, Bool.not_false]
      refine bC_iff (fun _ => hq _ _ _ O3 F3) (fun e1 => ?_)
      refine bC_iff (fun _ => hq _ _ _ O3 F3) (fun e2 => ?_)
      have e1 := of_decide_eq_false e1
      have e2 := of_decide_eq_false e2
      obtain ⟨v, rfl⟩ : ∃ v : Nat, n = v := ⟨n.toNat, by omega⟩
      refine itoa_ok O3 (T.keep F3) (by omega) fun h4 μ4 ρ4 O4 F4 => ?_
      simp only [oB_some, bC_true, bC_false, vInt_int, vBool_bool, vStr_string, vPtr_pointer, vSl_slice, vMap_map, vFun_func, vAgg_agg, vTup_tuple, vIfc_nil, vIfc_iface, lC_cons, lN_nil, aP_some, shO_none, shO_some, Option.isNone_none, Option.isNone_some, Bool.not_true, Bool.not_false]
      refine bC_iff (fun _ => hq _ _ _ O4 (F3.trans F4)) (fun e => ?_)
      exact (hd ⟨v, by omega, bEq_iff.1 (nb' e)⟩).elim
    · simp only [oB_some, bC_true, bC_false, vInt_int, vBool_bool, vStr_string, vPtr_pointer, vSl_slice, vMap_map, vFun_func, vAgg_agg, vTup_tuple, vIfc_nil, vIfc_iface, lC_cons, lN_nil, aP_some, shO_none, shO_some, Option.isNone_none, Option.isNone_some, Bool.not_true, Bool.not_false]
      exact hq _ _ _ O3 F3
/-- The number may be asked of any word. -/
theorem tbs_any (E : Errs ρ) (T : Vw ρ [] (some ⟨2, 0, none⟩) pow10) : Tbs (fun s => s.size ≤ 70368744177664) ρ := fun O F g hq => number_any O (E.keep F) (T.keep F) g hq
end Go.Proofs.YtgdkekdedgkglaaDoor
end

section
/- Lines of words built piece by piece. -/
namespace Go.Proofs.YtgdkekdedgkglaaDoor
open Go.Abs Go.Abs.Fo
set_option maxRecDepth 100000
attribute [local irreducible] unitAt EvQ
variable {h : AW} {μ : Paint} {ρ : Store} {Q : Value → AW → Prop}
/-- Lines whose words lie among many. -/
def Built (vs : List (Option Addr × Nat × Nat × List Value)) (ps : List Wds) : Prop := ∀ p, p ∈ ps → Vm vs p.a (strs p.x) ∧ p.x.length ≤ p.cap
theorem Built.nil {vs : List (Option Addr × Nat × Nat × List Value)} : Built vs [] := fun p hp => by simp at hp
theorem Built.more {vs ws : List (Option Addr × Nat × Nat × List Value)} {ps : List Wds} (B : Built vs ps) (hs : ∀ x, x ∈ vs → x ∈ ws) : Built ws ps := fun p hp => ⟨(B p hp).1.more hs, (B p hp).2⟩
theorem Built.app {vs : List (Option Addr × Nat × Nat × List Value)} {ps qs : List Wds} (B : Built vs ps) (C : Built vs qs) : Built vs (ps ++ qs) := fun p hp => by
  rcases List.mem_append.1 hp with x | x
  · exact B p x
  · exact C p x
theorem Built.snoc {vs : List (Option Addr × Nat × Nat × List Value)} {ps : List Wds} (B : Built vs ps) {p : Wds} (hc : p.x.length ≤ p.cap) : Built ((p.a, p.cap, 1, strs p.x) :: vs) (ps ++ [p]) :=
  (B.more fun x hx => List.mem_cons_of_mem _ hx).app fun q hq => by
    simp at hq; subst hq
    exact ⟨.inr ⟨_, _, List.mem_cons_self⟩, hc⟩
/-- Lines are read, and the spot is laid down. -/
theorem parse_spot {G : Str → Prop} (O : Own h μ ρ) (T : Tbs G ρ) {ps : List Wds} {a : Option Addr} {cap : Nat} (X : Lns ρ ps a) (M : Mild (ps.map Wds.x)) (hG : ∀ p, p ∈ ps → ∀ w s, p.x = [w, s] → opOf w = 10 → G s) {ρ1 : Store} {ns : List Nat} {rs : List Res} (W : Pcs ρ1 ρ ns rs)
    {K : Option Addr → Nat → Nat → AW → AW → Prop}
    (H : ∀ h11 h27 μ' ρ' c co cm oa oc cells vs, Own h27 μ' ρ' → Pcs ρ1 ρ' (c :: co :: cm :: ns) (.var (AW.next h11) [.int .i64 (parseM (ps.map Wds.x)).2.1, .int .i64 (parseM (ps.map Wds.x)).2.2] :: .sl oa oc 4 cells :: .many vs :: rs) → Fra [] ρ ρ' → ρ1 c = none → ρ1 co = none → ρ1 cm = none →
      Lies (Vm vs) (parseM (ps.map Wds.x)).1 cells → K oa (parseM (ps.map Wds.x)).1.len oc h11 h27) :
    EvQ P f_action_Parse [.slice a ps.length cap] h fun v10 h11 => vTup v10 fun l12 => lC l12 fun v13 l14 => vSl v13 fun p15 m16 m17 => lC l14 fun v18 l19 => vAgg v18 fun l20 => lC l20 fun v21 l22 => vInt .i64 v21 fun n23 => lC l22 fun v24 l25 => vInt .i64 v24 fun n26 => lN l25 (lN l19
      (oB (AW.wrL (AW.addVar h11 [.int .i64 0, .int .i64 0]) (AW.next h11) 0 [.int .i64 n23, .int .i64 n26]) fun h27 => K p15 m16 m17 h11 h27)) := by
  refine parse_ok O T X M hG fun h2 μ2 ρ2 co cm oa oc cells vs O2 W2 hco hcm L2 => ?_
  simp only [oB_some, bC_true, bC_false, vInt_int, vBool_bool, vStr_string, vPtr_pointer, vSl_slice, vMap_map, vFun_func, vAgg_agg, vTup_tuple, vIfc_nil, vIfc_iface, lC_cons, lN_nil, aP_some, shO_none, shO_some, Option.isNone_none, Option.isNone_some, Bool.not_true, Bool.not_false]
  have F2 : Fra [] ρ ρ2 := W2.fra0 fun c hc => by simp at hc; rcases hc with rfl | rfl <;> assumption
  have W3 := W.adopt2 W2 hco hcm
  refine w_copyF O2 W3 rfl rfl rfl fun h3 μ3 ρ3 c O3 W4 hc F3 => ?_
  exact H _ _ _ _ c co cm oa oc cells vs O3 W4 (F2.trans F3) hc (W.not0 hco) (W.not0 hcm) L2
end Go.Proofs.YtgdkekdedgkglaaDoor
end

section
/- Rules of walks, printed by a program of ours: group ALaw. -/
namespace Go.Proofs.YtgdkekdedgkglaaDoor
open Go.Abs
set_option maxRecDepth 100000
theorem r_brickyardlaw13_ActionParses {p1 : Option Addr} {m2 : Nat} {m3 : Nat} {h : AW} {Q : Value → AW → Prop} (H : EvQ P f_brickyardlaw13_works [] h fun v4 h5 => vBool v4 fun b6 => bC (!b6) (Q (Value.bool false) h5) (EvQ
  P f_brickyardlaw13_wide [Value.slice p1 m2 m3] h5 fun v7 h8 => vBool v7 fun b9 => bC b9 (Q (Value.bool true) h8) (EvQ P f_action_Parse [Value.slice p1 m2 m3] h8 fun v10 h11 => vTup v10 fun l12 => lC l12
  fun v13 l14 => vSl v13 fun p15 m16 m17 => lC l14 fun v18 l19 => vAgg v18 fun l20 => lC l20 fun v21 l22 => vInt IntKind.i64 v21 fun n23 => lC l22 fun v24 l25 => vInt IntKind.i64
  v24 fun n26 => lN l25 (lN l19 (oB (AW.wrL (AW.addVar h11 [Value.int IntKind.i64 0, Value.int IntKind.i64 0]) (AW.next h11) 0 [Value.int IntKind.i64 n23, Value.int IntKind.i64
  n26]) fun h27 => EvQ P f_brickyardref13_Parse [Value.slice p1 m2 m3] h27 fun v28 h29 => vTup v28 fun l30 => lC l30 fun v31 l32 => vSl v31 fun p33 m34 m35 => lC l32 fun v36 l37 => vAgg v36 fun l38
  => lC l38 fun v39 l40 => vInt IntKind.i64 v39 fun n41 => lC l40 fun v42 l43 => vInt IntKind.i64 v42 fun n44 => lN l43 (lN l37 (oB (AW.wrL (AW.addVar h29 [Value.int IntKind.i64 0,
  Value.int IntKind.i64 0]) (AW.next h29) 0 [Value.int IntKind.i64 n41, Value.int IntKind.i64 n44]) fun h45 => EvQ P f_brickyardref13_Same [Value.slice p15 m16 m17, Value.slice p33 m34 m35] h45 fun
  v46 h47 => vBool v46 fun b48 => bC (!b48) (Q (Value.bool false) h47) (oB (AW.rd h47 (AW.next h11) 0) fun v49 => vInt IntKind.i64 v49 fun n50 => oB (AW.rd h47 (AW.next h11) 1) fun
  v51 => vInt IntKind.i64 v51 fun n52 => oB (AW.rd h47 (AW.next h29) 0) fun v53 => vInt IntKind.i64 v53 fun n54 => oB (AW.rd h47 (AW.next h29) 1) fun v55 => vInt IntKind.i64 v55
  fun n56 => bC (!(n50 == n54 && (n52 == n56 && true))) (Q (Value.bool false) h47) (unitAt P f_brickyardlaw13_ActionParses 10 [0, 3, 5, 6, 7] [Value.slice p1 m2 m3, Value.slice p15 m16 m17, Value.slice p33
  m34 m35, Value.pointer (some (Addr.mk (AW.next h29) 0 none)), Value.int IntKind.i64 0] h47 Q))))))))) : EvQ P f_brickyardlaw13_ActionParses [Value.slice p1 m2 m3] h Q := fn_ok (n := 400) (ann := annOf
  [(10, [0, 3, 5, 6, 7]), (13, [0, 3, 5, 6, 7, 8])]) (Eq.mp (by kernel_rfl) H)
theorem r_brickyardlaw13_ActionParses_10 {p1 : Option Addr} {m2 : Nat} {m3 : Nat} {p4 : Option Addr} {m5 : Nat} {m6 : Nat} {p7 : Option Addr} {m8 : Nat} {m9 : Nat} {m10 : Nat} {n11 : Int} {h : AW} {Q :
  Value → AW → Prop} (H : bC (decide (n11 < (↑m5 : Int))) (unitAt P f_brickyardlaw13_ActionParses 13 [0, 3, 5, 6, 7, 8] [Value.slice p1 m2 m3, Value.slice p4 m5 m6, Value.slice p7 m8 m9, Value.pointer (some
  (Addr.mk m10 0 none)), Value.int IntKind.i64 n11, Value.int IntKind.i64 0] h Q) (EvQ P f_action_Parse [Value.slice p1 m2 m3] h fun v12 h13 => vTup v12 fun l14 => lC l14 fun v15 l16 => vSl
  v15 fun p17 m18 m19 => lC l16 fun v20 l21 => vAgg v20 fun l22 => lC l22 fun v23 l24 => vInt IntKind.i64 v23 fun n25 => lC l24 fun v26 l27 => vInt IntKind.i64 v26 fun n28 => lN
  l27 (lN l21 (oB (AW.wrL (AW.addVar h13 [Value.int IntKind.i64 0, Value.int IntKind.i64 0]) (AW.next h13) 0 [Value.int IntKind.i64 n25, Value.int IntKind.i64 n28]) fun h29 => EvQ
  P f_brickyardref13_Same [Value.slice p17 m18 m19, Value.slice p7 m8 m9] h29 fun v30 h31 => vBool v30 fun b32 => bC b32 (oB (AW.rd h31 (AW.next h13) 0) fun v33 => vInt IntKind.i64 v33 fun n34 =>
  oB (AW.rd h31 (AW.next h13) 1) fun v35 => vInt IntKind.i64 v35 fun n36 => oB (AW.rd h31 m10 0) fun v37 => vInt IntKind.i64 v37 fun n38 => oB (AW.rd h31 m10 1) fun v39 => vInt
  IntKind.i64 v39 fun n40 => Q (Value.bool (n34 == n38 && (n36 == n40 && true))) h31) (Q (Value.bool false) h31))))) : unitAt P f_brickyardlaw13_ActionParses 10 [0, 3, 5, 6, 7] [Value.slice p1 m2 m3,
  Value.slice p4 m5 m6, Value.slice p7 m8 m9, Value.pointer (some (Addr.mk m10 0 none)), Value.int IntKind.i64 n11] h Q := unit_ok (n := 400) (ann := annOf [(10, [0, 3, 5, 6, 7]),
  (13, [0, 3, 5, 6, 7, 8])]) (Eq.mp (by kernel_rfl) H)
theorem r_brickyardlaw13_ActionParses_13 {p1 : Option Addr} {m2 : Nat} {m3 : Nat} {p4 : Option Addr} {m5 : Nat} {m6 : Nat} {p7 : Option Addr} {m8 : Nat} {m9 : Nat} {m10 : Nat} {n11 : Int} {n12 : Int} {h :
  AW} {Q : Value → AW → Prop} (H : aP p4 fun m13 m14 => oB (natIdx n11 m5) fun m15 => oB (AW.rd h m13 (m14 + m15 * 4 + 1)) fun v16 => vSl v16 fun p17 m18 m19 => bC (decide (n12 <
  (↑m18 : Int))) (aP p4 fun m20 m21 => oB (natIdx n11 m5) fun m22 => oB (AW.rd h m20 (m21 + m22 * 4 + 1)) fun v23 => vSl v23 fun p24 m25 m26 => aP p24 fun m27 m28 => oB (natIdx n12
  m25) fun m29 => oB (AW.wr h m27 (m28 + m29 * 1) (Value.string (ByteArray.mk #[103, 111, 110, 101]))) fun h30 => unitAt P f_brickyardlaw13_ActionParses 13 [0, 3, 5, 6, 7, 8] [Value.slice p1 m2 m3,
  Value.slice p4 m5 m6, Value.slice p7 m8 m9, Value.pointer (some (Addr.mk m10 0 none)), Value.int IntKind.i64 n11, Value.int IntKind.i64 (IntKind.wrap IntKind.i64 (n12 + 1))] h30
  Q) (aP p4 fun m31 m32 => oB (natIdx n11 m5) fun m33 => oB (AW.wrL h m31 (m32 + m33 * 4) [Value.int IntKind.i64 0, Value.slice none 0 0, Value.int IntKind.i64 0, Value.slice none
  0 0]) fun h34 => unitAt P f_brickyardlaw13_ActionParses 10 [0, 3, 5, 6, 7] [Value.slice p1 m2 m3, Value.slice p4 m5 m6, Value.slice p7 m8 m9, Value.pointer (some (Addr.mk m10 0 none)), Value.int
  IntKind.i64 (IntKind.wrap IntKind.i64 (n11 + 1))] h34 Q)) : unitAt P f_brickyardlaw13_ActionParses 13 [0, 3, 5, 6, 7, 8] [Value.slice p1 m2 m3, Value.slice p4 m5 m6, Value.slice p7 m8 m9, Value.pointer
  (some (Addr.mk m10 0 none)), Value.int IntKind.i64 n11, Value.int IntKind.i64 n12] h Q := unit_ok (n := 400) (ann := annOf [(10, [0, 3, 5, 6, 7]), (13, [0, 3, 5, 6, 7, 8])])
  (Eq.mp (by kernel_rfl) H)
theorem r_brickyardlaw13_wide {p1 : Option Addr} {m2 : Nat} {m3 : Nat} {h : AW} {Q : Value → AW → Prop} (H : unitAt P f_brickyardlaw13_wide 3 [0, 3, 4] [Value.slice p1 m2 m3, Value.int IntKind.i64 0, Value.int
  IntKind.i64 0] h Q) : EvQ P f_brickyardlaw13_wide [Value.slice p1 m2 m3] h Q := fn_ok (n := 400) (ann := annOf [(3, [0, 3, 4]), (7, [0, 3, 4, 5])]) (Eq.mp (by kernel_rfl) H)
theorem r_brickyardlaw13_wide_3 {p1 : Option Addr} {m2 : Nat} {m3 : Nat} {n4 : Int} {n5 : Int} {h : AW} {Q : Value → AW → Prop} (H : bC (decide (n5 < (↑m2 : Int))) (bC (decide (n4 < 262144))
  (unitAt P f_brickyardlaw13_wide 7 [0, 3, 4, 5] [Value.slice p1 m2 m3, Value.int IntKind.i64 (IntKind.wrap IntKind.i64 (n4 + 1)), Value.int IntKind.i64 n5, Value.int IntKind.i64 0] h Q) (Q
  (Value.bool (decide (n4 ≥ 262144))) h)) (Q (Value.bool (decide (n4 ≥ 262144))) h)) : unitAt P f_brickyardlaw13_wide 3 [0, 3, 4] [Value.slice p1 m2 m3, Value.int IntKind.i64 n4, Value.int
  IntKind.i64 n5] h Q := unit_ok (n := 400) (ann := annOf [(3, [0, 3, 4]), (7, [0, 3, 4, 5])]) (Eq.mp (by kernel_rfl) H)
theorem r_brickyardlaw13_wide_7 {p1 : Option Addr} {m2 : Nat} {m3 : Nat} {n4 : Int} {n5 : Int} {n6 : Int} {h : AW} {Q : Value → AW → Prop} (H : aP p1 fun m7 m8 => oB (natIdx n5 m2) fun m9 => oB
  (AW.rd h m7 (m8 + m9 * 1)) fun v10 => vSl v10 fun p11 m12 m13 => bC (decide (n6 < (↑m12 : Int))) (bC (decide (n4 < 262144)) (aP p1 fun m14 m15 => oB (natIdx n5 m2) fun m16 => oB
  (AW.rd h m14 (m15 + m16 * 1)) fun v17 => vSl v17 fun p18 m19 m20 => aP p18 fun m21 m22 => oB (natIdx n6 m19) fun m23 => oB (AW.rd h m21 (m22 + m23 * 1)) fun v24 => vStr v24 fun
  s25 => unitAt P f_brickyardlaw13_wide 7 [0, 3, 4, 5] [Value.slice p1 m2 m3, Value.int IntKind.i64 (IntKind.wrap IntKind.i64 (n4 + IntKind.wrap IntKind.i64 (1 + (↑(ByteArray.size s25) : Int)))),
  Value.int IntKind.i64 n5, Value.int IntKind.i64 (IntKind.wrap IntKind.i64 (n6 + 1))] h Q) (unitAt P f_brickyardlaw13_wide 3 [0, 3, 4] [Value.slice p1 m2 m3, Value.int IntKind.i64 n4, Value.int
  IntKind.i64 (IntKind.wrap IntKind.i64 (n5 + 1))] h Q)) (unitAt P f_brickyardlaw13_wide 3 [0, 3, 4] [Value.slice p1 m2 m3, Value.int IntKind.i64 n4, Value.int IntKind.i64 (IntKind.wrap IntKind.i64
  (n5 + 1))] h Q)) : unitAt P f_brickyardlaw13_wide 7 [0, 3, 4, 5] [Value.slice p1 m2 m3, Value.int IntKind.i64 n4, Value.int IntKind.i64 n5, Value.int IntKind.i64 n6] h Q := unit_ok (n := 400)
  (ann := annOf [(3, [0, 3, 4]), (7, [0, 3, 4, 5])]) (Eq.mp (by kernel_rfl) H)
end Go.Proofs.YtgdkekdedgkglaaDoor
end

section
/- What is played: how great lists and lines are. -/
namespace Go.Proofs.YtgdkekdedgkglaaDoor
open Go.Abs Go.Abs.Fo
set_option maxRecDepth 100000
attribute [local irreducible] unitAt EvQ
variable {h : AW} {μ : Paint} {ρ : Store} {Q : Value → AW → Prop}

theorem wide_words (O : Own h μ ρ) {ps : List Wds} {a : Option Addr} {cap : Nat} (X : Lns ρ ps a) (L : Long (ps.map Wds.x)) {j : Nat} (hj : j < ps.length) {n0 : Int}
    (ht : ∀ n, 0 ≤ n → n ≤ 262144 + 140737488355329 → n = wA 262144 ps[j].x n0 → unitAt P f_brickyardlaw13_wide 3 [0, 3, 4] [.slice a ps.length cap, .int .i64 n, .int .i64 ((j + 1 : Nat) : Int)] h Q) :
    ∀ (d k : Nat) (n : Int), ps[j].x.length - k = d → k ≤ ps[j].x.length → 0 ≤ n → n ≤ 262144 + 140737488355329 → wA 262144 (ps[j].x.drop k) n = wA 262144 ps[j].x n0 →
      unitAt P f_brickyardlaw13_wide 7 [0, 3, 4, 5] [.slice a ps.length cap, .int .i64 n, .int .i64 (j : Int), .int .i64 (k : Int)] h Q := by
  have hl := L.2 ps[j].x (List.mem_map_of_mem (List.getElem_mem hj))
  have hlen := L.1
  simp only [List.length_map] at hlen
  intro d
  induction d with
  | zero =>
    intro k n hd hk h0 h1 he
    have : k = ps[j].x.length := by omega
    subst this
    rw [List.drop_length] at he
    refine r_brickyardlaw13_wide_7 ?_
    refine ln_at O X rfl rfl hj fun V => ?_
    rw [geI (Nat.le_refl _)]
    simp only [oB_some, bC_true, bC_false, vInt_int, vBool_bool, vStr_string, vPtr_pointer, vSl_slice, vMap_map, vFun_func, vAgg_agg, vTup_tuple, vIfc_nil, vIfc_iface, lC_cons, lN_nil, aP_some, shO_none, shO_some, Option.isNone_none, Option.isNone_some, Bool.not_true, Bool.not_false]
    rw [wrapS (by omega)]
    exact ht n h0 h1 he
  | succ d ih =>
    intro k n hd hk h0 h1 he
    have hkl : k < ps[j].x.length := by omega
    refine r_brickyardlaw13_wide_7 ?_
    refine ln_at O X rfl rfl hj fun V => ?_
    rw [ltI hkl]
    simp only [oB_some, bC_true, bC_false, vInt_int, vBool_bool, vStr_string, vPtr_pointer, vSl_slice, vMap_map, vFun_func, vAgg_agg, vTup_tuple, vIfc_nil, vIfc_iface, lC_cons, lN_nil, aP_some, shO_none, shO_some, Option.isNone_none, Option.isNone_some, Bool.not_true, Bool.not_false]
    rw [List.drop_eq_getElem_cons hkl, wA] at he
    refine bC_iff (fun e => ?_) (fun e => ?_)
    · have e : n < 262144 := of_decide_eq_true e
      rw [if_pos e] at he
      refine ln_at O X rfl rfl hj fun V => ?_
      refine wd_at O V rfl rfl hkl ?_
      have hz := hl.2 _ (List.getElem_mem hkl)
      rw [wrap_small (n := 1 + (ps[j].x[k].size : Int)) (by omega) (by omega), wrap_small (n := n + (1 + (ps[j].x[k].size : Int))) (by omega) (by omega), wrapS (by omega)]
      exact ih (k + 1) _ (by omega) (by omega) (by omega) (by omega) he
    · have e : ¬ n < 262144 := of_decide_eq_false e
      rw [if_neg e] at he
      rw [wrapS (by omega)]
      exact ht n h0 h1 he
theorem wide_loop (O : Own h μ ρ) {ps : List Wds} {a : Option Addr} {cap : Nat} (X : Lns ρ ps a) (L : Long (ps.map Wds.x)) :
    ∀ (d j : Nat) (n : Int), ps.length - j = d → j ≤ ps.length → 0 ≤ n → n ≤ 262144 + 140737488355329 → Q (.bool (decide (wL ((ps.drop j).map Wds.x) n ≥ 262144))) h →
      unitAt P f_brickyardlaw13_wide 3 [0, 3, 4] [.slice a ps.length cap, .int .i64 n, .int .i64 (j : Int)] h Q := by
  intro d
  induction d with
  | zero =>
    intro j n hd hj h0 h1 hq
    refine r_brickyardlaw13_wide_3 ?_
    rw [geI (by omega)]
    simp only [oB_some, bC_true, bC_false, vInt_int, vBool_bool, vStr_string, vPtr_pointer, vSl_slice, vMap_map, vFun_func, vAgg_agg, vTup_tuple, vIfc_nil, vIfc_iface, lC_cons, lN_nil, aP_some, shO_none, shO_some, Option.isNone_none, Option.isNone_some, Bool.not_true, Bool.not_false]
    rw [List.drop_eq_nil_of_le (by omega)] at hq
    exact hq
  | succ d ih =>
    intro j n hd hj h0 h1 hq
    have hlt : j < ps.length := by omega
    refine r_brickyardlaw13_wide_3 ?_
    rw [ltI hlt]
    simp only [oB_some, bC_true, bC_false, vInt_int, vBool_bool, vStr_string, vPtr_pointer, vSl_slice, vMap_map, vFun_func, vAgg_agg, vTup_tuple, vIfc_nil, vIfc_iface, lC_cons, lN_nil, aP_some, shO_none, shO_some, Option.isNone_none, Option.isNone_some, Bool.not_true, Bool.not_false]
    rw [List.drop_eq_getElem_cons hlt, List.map_cons, wL] at hq
    refine bC_iff (fun e => ?_) (fun e => ?_)
    · have e : n < 262144 := of_decide_eq_true e
      rw [if_pos e] at hq
      rw [wrap_small (n := n + 1) (by omega) (by omega)]
      refine wide_words O X L hlt (n0 := n + 1) (fun n2 g0 g1 g2 => ?_) _ 0 (n + 1) rfl (by omega) (by omega) (by omega) rfl
      exact ih (j + 1) n2 (by omega) (by omega) g0 g1 (by rw [g2]; exact hq)
    · have e : ¬ n < 262144 := of_decide_eq_false e
      rw [if_neg e] at hq
      exact hq
theorem wide_ok (O : Own h μ ρ) {ps : List Wds} {a : Option Addr} {cap : Nat} (X : Lns ρ ps a) (L : Long (ps.map Wds.x)) (hq : Q (.bool (wideM (ps.map Wds.x))) h) :
    EvQ P f_brickyardlaw13_wide [.slice a ps.length cap] h Q :=
  r_brickyardlaw13_wide (wide_loop O X L _ 0 0 rfl (by omega) (by omega) (by omega) hq)

end Go.Proofs.YtgdkekdedgkglaaDoor
end

section
/- Two lists of statements: the same? -/
namespace Go.Proofs.YtgdkekdedgkglaaDoor
open Go.Abs Go.Abs.Fo
set_option maxRecDepth 100000
attribute [local irreducible] unitAt EvQ
variable {h : AW} {μ : Paint} {ρ : Store} {Q : Value → AW → Prop}

theorem rsame_words (O : Own h μ ρ) {ρ0 : Store} {c1 c2 p1 p2 : Nat} {l1 l2 : List Value} {aa aa' : Option Addr} {ac ac' : Nat} {args args' : List Str} (W : Pcs ρ0 ρ [c2, c1] [.var p2 l2, .var p1 l1]) (g1 : l1[1]? = some (.slice aa args.length ac)) (g2 : l2[1]? = some (.slice aa' args'.length ac'))
    (va : Vw ρ [] aa (strs args)) (va' : Vw ρ [] aa' (strs args')) (hlen : args.length = args'.length) (hl : args.length ≤ 140737488355328) {a b : Option Addr} {na ca mb cb i : Nat} (hi : i ≤ 140737488355328)
    (hf : decide (args = args') = false → Q (.bool false) h) (ht : args = args' → unitAt P f_brickyardref13_Same 4 [0, 1, 5] [.slice a na ca, .slice b mb cb, .int .i64 ((i + 1 : Nat) : Int)] h Q) :
    ∀ (d k : Nat), args.length - k = d → k ≤ args.length → args.take k = args'.take k →
      unitAt P f_brickyardref13_Same 10 [0, 1, 5, 6, 7, 8] [.slice a na ca, .slice b mb cb, .int .i64 (i : Int), .pointer (some ⟨p1, 0, none⟩), .pointer (some ⟨p2, 0, none⟩), .int .i64 (k : Int)] h Q := by
  intro d
  induction d with
  | zero =>
    intro k hd hk he
    refine r_brickyardref13_Same_10 ?_
    refine w_rd O W 1 rfl g1 ?_
    simp only [oB_some, bC_true, bC_false, vInt_int, vBool_bool, vStr_string, vPtr_pointer, vSl_slice, vMap_map, vFun_func, vAgg_agg, vTup_tuple, vIfc_nil, vIfc_iface, lC_cons, lN_nil, aP_some, shO_none, shO_some, Option.isNone_none, Option.isNone_some, Bool.not_true, Bool.not_false]
    rw [geI (by omega)]
    simp only [oB_some, bC_true, bC_false, vInt_int, vBool_bool, vStr_string, vPtr_pointer, vSl_slice, vMap_map, vFun_func, vAgg_agg, vTup_tuple, vIfc_nil, vIfc_iface, lC_cons, lN_nil, aP_some, shO_none, shO_some, Option.isNone_none, Option.isNone_some, Bool.not_true, Bool.not_false]
    rw [wrapS (by omega)]
    have : k = args.length := by omega
    subst this
    rw [List.take_length, hlen, List.take_length] at he
    exact ht he
  | succ d ih =>
    intro k hd hk he
    have hlt : k < args.length := by omega
    refine r_brickyardref13_Same_10 ?_
    refine w_rd O W 1 rfl g1 ?_
    simp only [oB_some, bC_true, bC_false, vInt_int, vBool_bool, vStr_string, vPtr_pointer, vSl_slice, vMap_map, vFun_func, vAgg_agg, vTup_tuple, vIfc_nil, vIfc_iface, lC_cons, lN_nil, aP_some, shO_none, shO_some, Option.isNone_none, Option.isNone_some, Bool.not_true, Bool.not_false]
    rw [ltI hlt]
    simp only [oB_some, bC_true, bC_false, vInt_int, vBool_bool, vStr_string, vPtr_pointer, vSl_slice, vMap_map, vFun_func, vAgg_agg, vTup_tuple, vIfc_nil, vIfc_iface, lC_cons, lN_nil, aP_some, shO_none, shO_some, Option.isNone_none, Option.isNone_some, Bool.not_true, Bool.not_false]
    refine w_rd O W 1 rfl g1 ?_
    simp only [oB_some, bC_true, bC_false, vInt_int, vBool_bool, vStr_string, vPtr_pointer, vSl_slice, vMap_map, vFun_func, vAgg_agg, vTup_tuple, vIfc_nil, vIfc_iface, lC_cons, lN_nil, aP_some, shO_none, shO_some, Option.isNone_none, Option.isNone_some, Bool.not_true, Bool.not_false]
    refine wd_at O va rfl rfl hlt ?_
    refine w_rd O W 0 rfl g2 ?_
    simp only [oB_some, bC_true, bC_false, vInt_int, vBool_bool, vStr_string, vPtr_pointer, vSl_slice, vMap_map, vFun_func, vAgg_agg, vTup_tuple, vIfc_nil, vIfc_iface, lC_cons, lN_nil, aP_some, shO_none, shO_some, Option.isNone_none, Option.isNone_some, Bool.not_true, Bool.not_false]
    refine wd_at O va' rfl rfl (by omega) ?_
    refine bC_iff (fun e => ?_) (fun e => ?_)
    · have e' : args[k] ≠ args'[k] := bEq_false.1 (nb e)
      refine hf (decide_eq_false fun e2 => ?_)
      subst e2; exact e' rfl
    · have e' : args[k] = args'[k] := bEq_iff.1 (nb' e)
      rw [wrapS (by omega)]
      exact ih (k + 1) (by omega) (by omega) (by rw [List.take_succ_eq_append_getElem hlt, List.take_succ_eq_append_getElem (by omega), he, e'])
theorem rsame_of (O : Own h μ ρ) {f g : F} {a b : Option Addr} {ca cb : Nat} (X : Ly ρ f a) (Y : Ly ρ g b)
    (loop : ∀ {c c' : List Value}, Vw ρ [] a c → Lies (Vw ρ []) f c → Vw ρ [] b c' → Lies (Vw ρ []) g c' → f.len = g.len → RdQ Q ρ (.bool (F.eqB f g)) → unitAt P f_brickyardref13_Same 4 [0, 1, 5] [.slice a f.len ca, .slice b g.len cb, .int .i64 0] h Q)
    (hq : RdQ Q ρ (.bool (F.eqB f g))) : EvQ P f_brickyardref13_Same [.slice a f.len ca, .slice b g.len cb] h Q := by
  refine r_brickyardref13_Same ?_
  refine bC_iff (fun e => ?_) (fun e => ?_)
  · have e : f.len ≠ g.len := by simp at e; omega
    rw [F.eqB_len e] at hq
    exact hq.now O
  · have e : f.len = g.len := by simp at e; omega
    obtain ⟨d, v1, l1⟩ := X
    obtain ⟨d', v1', l1'⟩ := Y
    exact loop v1 l1 v1' l1' e hq
theorem rsame_loop : ∀ (rest : F) {h : AW} {μ : Paint} {ρ : Store} {Q : Value → AW → Prop}, Own h μ ρ → ∀ {pre pre' rest' : F} {a a' : Option Addr} {c c' : List Value} {cap cap' : Nat}, Vw ρ [] a c → Lies (Vw ρ []) (pre.app rest) c → Vw ρ [] a' c' → Lies (Vw ρ []) (pre'.app rest') c' →
    pre.len = pre'.len → rest.len = rest'.len → (pre.app rest).len ≤ 140737488355328 → Fits rest → RdQ Q ρ (.bool (F.eqB rest rest')) →
    unitAt P f_brickyardref13_Same 4 [0, 1, 5] [.slice a (pre.app rest).len cap, .slice a' (pre'.app rest').len cap', .int .i64 (pre.len : Int)] h Q
  | .nil, h, μ, ρ, Q, O, pre, pre', .nil, a, a', c, c', cap, cap', X, L, X', L', hp, hr, hl, hf, hq => by
    refine r_brickyardref13_Same_4 ?_
    rw [F.app_nil, geI (Nat.le_refl _)]
    simp only [oB_some, bC_true, bC_false, vInt_int, vBool_bool, vStr_string, vPtr_pointer, vSl_slice, vMap_map, vFun_func, vAgg_agg, vTup_tuple, vIfc_nil, vIfc_iface, lC_cons, lN_nil, aP_some, shO_none, shO_some, Option.isNone_none, Option.isNone_some, Bool.not_true, Bool.not_false]
    exact hq.now O
  | .nil, h, μ, ρ, Q, O, pre, pre', .cons _ _ _ _ _, a, a', c, c', cap, cap', X, L, X', L', hp, hr, hl, hf, hq => by
    simp [F.len] at hr
  | .cons _ _ _ _ _, h, μ, ρ, Q, O, pre, pre', .nil, a, a', c, c', cap, cap', X, L, X', L', hp, hr, hl, hf, hq => by
    simp [F.len] at hr
  | .cons op args kk body rest, h, μ, ρb, Q, Ob, pre, pre', .cons op' args' kk' body' rest', a, a', c, c', cap, cap', X, L, X', L', hp, hr, hl, hf, hq => by
    obtain ⟨f1, f2, f3, f4, f5⟩ := hf
    simp only [F.len, Nat.add_right_cancel_iff] at hr
    have hlt : pre.len < (pre.app (.cons op args kk body rest)).len := app_lt
    refine r_brickyardref13_Same_4 ?_
    rw [ltI hlt]
    simp only [oB_some, bC_true, bC_false, vInt_int, vBool_bool, vStr_string, vPtr_pointer, vSl_slice, vMap_map, vFun_func, vAgg_agg, vTup_tuple, vIfc_nil, vIfc_iface, lC_cons, lN_nil, aP_some, shO_none, shO_some, Option.isNone_none, Option.isNone_some, Bool.not_true, Bool.not_false]
    obtain ⟨μ1, ρ1, c1, O1, W1, hc1⟩ := w_new Ob p00 [.int .i64 0, .slice none 0 0, .int .i64 0, .slice none 0 0]
    obtain ⟨μ2, ρ2, c2, O2, W2, hc2⟩ := w_new O1 W1 [.int .i64 0, .slice none 0 0, .int .i64 0, .slice none 0 0]
    have hcs : ∀ c, c ∈ [c2, c1] → ρb c = none := fun c hc => by
      simp at hc; rcases hc with rfl | rfl <;> assumption
    have F1 : Fra [] ρb ρ1 := W1.fra0 fun c hc => by
      simp at hc; rw [hc]; exact hc1
    have F2 : Fra [] ρb ρ2 := W2.fra0 hcs
    refine st_open Ob X L rfl rfl fun i off aa ac ba bc va la SA => ?_
    have S0 := SA Ob Fra.refl
    have S1 := SA O1 F1
    have S2 := SA O2 F2
    repeat (first | refine ⟨rfl, ?_⟩ | refine ⟨trivial, ?_⟩ | simp only [oB_some, bC_true, bC_false, vInt_int, vBool_bool, vStr_string, vPtr_pointer, vSl_slice, vMap_map, vFun_func, vAgg_agg, vTup_tuple, vIfc_nil, vIfc_iface, lC_cons, lN_nil, aP_some, shO_none, shO_some, Option.isNone_none, Option.isNone_some, Bool.not_true, Bool.not_false] | refine w_rd (by assumption) (by assumption) 0 (by rfl) (by rfl) ?_ | refine w_rd (by assumption) (by assumption) 1 (by rfl) (by rfl) ?_ | refine w_wrL (by assumption) (by assumption) 0 (by rfl) (Nat.le_of_ble_eq_true (by rfl)) (by rfl) fun h ρz O W => ?_ | refine w_wrL (by assumption) (by assumption) 1 (by rfl) (Nat.le_of_ble_eq_true (by rfl)) (by rfl) fun h ρz O W => ?_ | refine w_wr (by assumption) (by assumption) 0 (by rfl) (Nat.le_of_ble_eq_true (by rfl)) (by rfl) fun h ρz O W => ?_ | refine w_wr (by assumption) (by assumption) 1 (by rfl) (Nat.le_of_ble_eq_true (by rfl)) (by rfl) fun h ρz O W => ?_ | refine oB_bind (StAt.r0 (by assumption)) ?_ | refine oB_bind (StAt.r1 (by assumption)) ?_ | refine oB_bind (StAt.r2 (by assumption)) ?_ | refine oB_bind (StAt.r3 (by assumption)) ?_)
    refine st_open Ob X' L' (by rw [hp]) rfl fun i2 off2 aa' ac' ba' bc' va' la' SB => ?_
    have T0 := SB Ob Fra.refl
    have T1 := SB O1 F1
    have T2 := SB O2 F2
    repeat (first | refine ⟨rfl, ?_⟩ | refine ⟨trivial, ?_⟩ | simp only [oB_some, bC_true, bC_false, vInt_int, vBool_bool, vStr_string, vPtr_pointer, vSl_slice, vMap_map, vFun_func, vAgg_agg, vTup_tuple, vIfc_nil, vIfc_iface, lC_cons, lN_nil, aP_some, shO_none, shO_some, Option.isNone_none, Option.isNone_some, Bool.not_true, Bool.not_false] | refine w_rd (by assumption) (by assumption) 0 (by rfl) (by rfl) ?_ | refine w_rd (by assumption) (by assumption) 1 (by rfl) (by rfl) ?_ | refine w_wrL (by assumption) (by assumption) 0 (by rfl) (Nat.le_of_ble_eq_true (by rfl)) (by rfl) fun h ρz O W => ?_ | refine w_wrL (by assumption) (by assumption) 1 (by rfl) (Nat.le_of_ble_eq_true (by rfl)) (by rfl) fun h ρz O W => ?_ | refine w_wr (by assumption) (by assumption) 0 (by rfl) (Nat.le_of_ble_eq_true (by rfl)) (by rfl) fun h ρz O W => ?_ | refine w_wr (by assumption) (by assumption) 1 (by rfl) (Nat.le_of_ble_eq_true (by rfl)) (by rfl) fun h ρz O W => ?_ | refine oB_bind (StAt.r0 (by assumption)) ?_ | refine oB_bind (StAt.r1 (by assumption)) ?_ | refine oB_bind (StAt.r2 (by assumption)) ?_ | refine oB_bind (StAt.r3 (by assumption)) ?_ | refine oB_bind (StAt.r0 (SB (by assumption) (Pcs.fra0 (by assumption) hcs))) ?_ | refine oB_bind (StAt.r1 (SB (by assumption) (Pcs.fra0 (by assumption) hcs))) ?_ | refine oB_bind (StAt.r2 (SB (by assumption) (Pcs.fra0 (by assumption) hcs))) ?_ | refine oB_bind (StAt.r3 (SB (by assumption) (Pcs.fra0 (by assumption) hcs))) ?_)
    have F3 := W.fra0 hcs
    have no : ∀ {h' : AW} {μ' : Paint} {ρ' : Store}, Own h' μ' ρ' → Fra [] ρb ρ' → F.eqB (.cons op args kk body rest) (.cons op' args' kk' body' rest') = false → Q (.bool false) h' := fun O' F' e => by
      have := hq _ _ _ O' F'
      rw [e] at this; exact this
    refine bC_iff (fun e => ?_) (fun e => ?_)
    · have e : op ≠ op' := by simpa using e
      exact no O F3 (by simp [F.eqB, e])
    have e : op = op' := by simpa using e
    subst e
    repeat (first | refine ⟨rfl, ?_⟩ | refine ⟨trivial, ?_⟩ | simp only [oB_some, bC_true, bC_false, vInt_int, vBool_bool, vStr_string, vPtr_pointer, vSl_slice, vMap_map, vFun_func, vAgg_agg, vTup_tuple, vIfc_nil, vIfc_iface, lC_cons, lN_nil, aP_some, shO_none, shO_some, Option.isNone_none, Option.isNone_some, Bool.not_true, Bool.not_false] | refine w_rd (by assumption) (by assumption) 0 (by rfl) (by rfl) ?_ | refine w_rd (by assumption) (by assumption) 1 (by rfl) (by rfl) ?_ | refine w_wrL (by assumption) (by assumption) 0 (by rfl) (Nat.le_of_ble_eq_true (by rfl)) (by rfl) fun h ρz O W => ?_ | refine w_wrL (by assumption) (by assumption) 1 (by rfl) (Nat.le_of_ble_eq_true (by rfl)) (by rfl) fun h ρz O W => ?_ | refine w_wr (by assumption) (by assumption) 0 (by rfl) (Nat.le_of_ble_eq_true (by rfl)) (by rfl) fun h ρz O W => ?_ | refine w_wr (by assumption) (by assumption) 1 (by rfl) (Nat.le_of_ble_eq_true (by rfl)) (by rfl) fun h ρz O W => ?_)
    refine bC_iff (fun e => ?_) (fun e => ?_)
    · have e : kk ≠ kk' := by simpa using e
      exact no O F3 (by simp [F.eqB, e])
    have e : kk = kk' := by simpa using e
    subst e
    repeat (first | refine ⟨rfl, ?_⟩ | refine ⟨trivial, ?_⟩ | simp only [oB_some, bC_true, bC_false, vInt_int, vBool_bool, vStr_string, vPtr_pointer, vSl_slice, vMap_map, vFun_func, vAgg_agg, vTup_tuple, vIfc_nil, vIfc_iface, lC_cons, lN_nil, aP_some, shO_none, shO_some, Option.isNone_none, Option.isNone_some, Bool.not_true, Bool.not_false] | refine w_rd (by assumption) (by assumption) 0 (by rfl) (by rfl) ?_ | refine w_rd (by assumption) (by assumption) 1 (by rfl) (by rfl) ?_ | refine w_wrL (by assumption) (by assumption) 0 (by rfl) (Nat.le_of_ble_eq_true (by rfl)) (by rfl) fun h ρz O W => ?_ | refine w_wrL (by assumption) (by assumption) 1 (by rfl) (Nat.le_of_ble_eq_true (by rfl)) (by rfl) fun h ρz O W => ?_ | refine w_wr (by assumption) (by assumption) 0 (by rfl) (Nat.le_of_ble_eq_true (by rfl)) (by rfl) fun h ρz O W => ?_ | refine w_wr (by assumption) (by assumption) 1 (by rfl) (Nat.le_of_ble_eq_true (by rfl)) (by rfl) fun h ρz O W => ?_)
    refine bC_iff (fun e => ?_) (fun e => ?_)
    · have e : args.length ≠ args'.length := by simp at e; omega
      have e2 : args ≠ args' := fun x => e (by rw [x])
      exact no O F3 (by simp [F.eqB, e2])
    have hlen : args.length = args'.length := by simp at e; omega
    repeat (first | refine ⟨rfl, ?_⟩ | refine ⟨trivial, ?_⟩ | simp only [oB_some, bC_true, bC_false, vInt_int, vBool_bool, vStr_string, vPtr_pointer, vSl_slice, vMap_map, vFun_func, vAgg_agg, vTup_tuple, vIfc_nil, vIfc_iface, lC_cons, lN_nil, aP_some, shO_none, shO_some, Option.isNone_none, Option.isNone_some, Bool.not_true, Bool.not_false] | refine w_rd (by assumption) (by assumption) 0 (by rfl) (by rfl) ?_ | refine w_rd (by assumption) (by assumption) 1 (by rfl) (by rfl) ?_ | refine w_wrL (by assumption) (by assumption) 0 (by rfl) (Nat.le_of_ble_eq_true (by rfl)) (by rfl) fun h ρz O W => ?_ | refine w_wrL (by assumption) (by assumption) 1 (by rfl) (Nat.le_of_ble_eq_true (by rfl)) (by rfl) fun h ρz O W => ?_ | refine w_wr (by assumption) (by assumption) 0 (by rfl) (Nat.le_of_ble_eq_true (by rfl)) (by rfl) fun h ρz O W => ?_ | refine w_wr (by assumption) (by assumption) 1 (by rfl) (Nat.le_of_ble_eq_true (by rfl)) (by rfl) fun h ρz O W => ?_)
    refine rsame_of O (la.keep F3) (la'.keep F3) (fun v1 l1 v2 l2 e q => rsame_loop body (pre := .nil) (pre' := .nil) O v1 l1 v2 l2 rfl e f3 f4 q) fun h4 μ4 ρ4 O4 F4 => ?_
    simp only [oB_some, bC_true, bC_false, vInt_int, vBool_bool, vStr_string, vPtr_pointer, vSl_slice, vMap_map, vFun_func, vAgg_agg, vTup_tuple, vIfc_nil, vIfc_iface, lC_cons, lN_nil, aP_some, shO_none, shO_some, Option.isNone_none, Option.isNone_some, Bool.not_true, Bool.not_false]
    refine bC_iff (fun e => ?_) (fun e => ?_)
    · have e : F.eqB body body' = false := nb e
      exact no O4 (F3.trans F4) (by simp [F.eqB, e])
    have e : F.eqB body body' = true := nb' e
    have F34 := F3.trans F4
    refine rsame_words O4 (W.keep0 F4) rfl rfl (va.keep F34) (va'.keep F34) hlen f1 (by omega) (fun e2 => no O4 F34 (by simp [F.eqB, e, of_decide_eq_false e2])) (fun e2 => ?_) _ 0 rfl (by omega) rfl
    have e3 : ∀ g : F, (pre.snoc op args kk body).app g = pre.app (.cons op args kk body g) := fun g => F.snoc_app pre op args kk body g
    have e4 : (pre.snoc op args kk body).len = pre.len + 1 := F.snoc_len pre op args kk body
    have e5 : ∀ g : F, (pre'.snoc op args' kk body').app g = pre'.app (.cons op args' kk body' g) := fun g => F.snoc_app pre' op args' kk body' g
    have e6 : (pre'.snoc op args' kk body').len = pre'.len + 1 := F.snoc_len pre' op args' kk body'
    have := rsame_loop rest (Q := Q) O4 (pre := pre.snoc op args kk body) (pre' := pre'.snoc op args' kk body') (rest' := rest') (cap := cap) (cap' := cap') (X.keep F34) (by rw [e3]; exact L.mono fun _ _ x => x.keep F34) (X'.keep F34) (by rw [e5]; exact L'.mono fun _ _ x => x.keep F34)
      (by rw [e4, e6, hp]) hr (by rw [e3]; exact hl) f5 (by
        have := hq.keep F34
        simp only [F.eqB, e, e2, decide_true, Bool.true_and] at this
        exact this)
    rw [e3, e4, e5] at this
    exact this
theorem rsame_ok (O : Own h μ ρ) {f g : F} {a b : Option Addr} {ca cb : Nat} (X : Ly ρ f a) (Y : Ly ρ g b) (hf : Fits f) (hl : f.len ≤ 140737488355328) (hq : RdQ Q ρ (.bool (F.eqB f g))) : EvQ P f_brickyardref13_Same [.slice a f.len ca, .slice b g.len cb] h Q :=
  rsame_of O X Y (fun v1 l1 v2 l2 e q => rsame_loop f (pre := .nil) (pre' := .nil) O v1 l1 v2 l2 rfl e hl hf q) hq
end Go.Proofs.YtgdkekdedgkglaaDoor
end

section
/- The beginning of lines: the law's walk. -/
namespace Go.Proofs.YtgdkekdedgkglaaDoor
open Go.Abs Go.Abs.Fo
set_option maxRecDepth 100000
attribute [local irreducible] unitAt EvQ
variable {h : AW} {μ : Paint} {ρ : Store} {Q : Value → AW → Prop}
theorem mild_G {ps : List Wds} (M : Mild (ps.map Wds.x)) : ∀ p, p ∈ ps → ∀ w s, p.x = [w, s] → opOf w = 10 → s.size ≤ 70368744177664 := fun p hp w s e _ => by
  have := M.str p.x (List.mem_map_of_mem hp) s (by rw [e]; simp)
  omega
end Go.Proofs.YtgdkekdedgkglaaDoor
end

section
/- Lines are read as said, twice: the law's walk. -/
namespace Go.Proofs.YtgdkekdedgkglaaDoor
open Go.Abs Go.Abs.Fo
set_option maxRecDepth 100000
attribute [local irreducible] unitAt EvQ
variable {h : AW} {μ : Paint} {ρ : Store} {Q : Value → AW → Prop}
/-- Lines are read as said, and the spot is laid down. -/
theorem rparse_spot (O : Own h μ ρ) {ps : List Wds} {a : Option Addr} {cap : Nat} (X : Lns ρ ps a) (M : Mild (ps.map Wds.x)) {ρ1 : Store} {ns : List Nat} {rs : List Res} (W : Pcs ρ1 ρ ns rs)
    {K : Option Addr → Nat → Nat → AW → AW → Prop}
    (H : ∀ h11 h27 μ' ρ' c co cm oa oc cells vs, Own h27 μ' ρ' → Pcs ρ1 ρ' (c :: co :: cm :: ns) (.var (AW.next h11) [.int .i64 (parseM (ps.map Wds.x)).2.1, .int .i64 (parseM (ps.map Wds.x)).2.2] :: .sl oa oc 4 cells :: .many vs :: rs) → Fra [] ρ ρ' → ρ1 c = none → ρ1 co = none → ρ1 cm = none →
      Lies (Vm vs) (parseM (ps.map Wds.x)).1 cells → K oa (parseM (ps.map Wds.x)).1.len oc h11 h27) :
    EvQ P f_brickyardref13_Parse [.slice a ps.length cap] h fun v10 h11 => vTup v10 fun l12 => lC l12 fun v13 l14 => vSl v13 fun p15 m16 m17 => lC l14 fun v18 l19 => vAgg v18 fun l20 => lC l20 fun v21 l22 => vInt .i64 v21 fun n23 => lC l22 fun v24 l25 => vInt .i64 v24 fun n26 => lN l25 (lN l19
      (oB (AW.wrL (AW.addVar h11 [.int .i64 0, .int .i64 0]) (AW.next h11) 0 [.int .i64 n23, .int .i64 n26]) fun h27 => K p15 m16 m17 h11 h27)) := by
  refine rparse_ok O X M fun h2 μ2 ρ2 co cm oa oc cells vs O2 W2 hco hcm L2 => ?_
  simp only [oB_some, bC_true, bC_false, vInt_int, vBool_bool, vStr_string, vPtr_pointer, vSl_slice, vMap_map, vFun_func, vAgg_agg, vTup_tuple, vIfc_nil, vIfc_iface, lC_cons, lN_nil, aP_some, shO_none, shO_some, Option.isNone_none, Option.isNone_some, Bool.not_true, Bool.not_false]
  have F2 : Fra [] ρ ρ2 := W2.fra0 fun c hc => by simp at hc; rcases hc with rfl | rfl <;> assumption
  have W3 := W.adopt2 W2 hco hcm
  refine w_copyF O2 W3 rfl rfl rfl fun h3 μ3 ρ3 c O3 W4 hc F3 => ?_
  exact H _ _ _ _ c co cm oa oc cells vs O3 W4 (F2.trans F3) hc (W.not0 hco) (W.not0 hcm) L2
/-- From an element on, the words of the statements may be written. -/
def Heads (bvs : List (Option Addr × Nat × Nat × Nat)) (cells : List Value) (i N : Nat) : Prop := cells.length = N * 4 ∧ ∀ j, i ≤ j → j < N → ∃ aa n ac, cells[j * 4 + 1]? = some (.slice aa n ac) ∧ n ≤ 140737488355328 ∧ (n = 0 ∨ ∃ cap sz, (aa, cap, sz, n) ∈ bvs)
theorem lies_heads {vs : List (Option Addr × Nat × Nat × List Value)} : ∀ {f : F} {cells : List Value}, Fits f → Lies (Vm vs) f cells → ∀ j, j < f.len → ∃ aa n ac, cells[j * 4 + 1]? = some (.slice aa n ac) ∧ n ≤ 140737488355328 ∧ (n = 0 ∨ ∃ cap sz, (aa, cap, sz, n) ∈ vs.map fun v => (v.1, v.2.1, v.2.2.1, v.2.2.2.length))
  | .nil, cells, _, L, j, hj => by simp [F.len] at hj
  | .cons op args n body rest, cells, ⟨f1, _, _, _, f2⟩, L, j, hj => by
    obtain ⟨aa, ac, ba, bc, bcells, rcells, rfl, va, vb, _, L2⟩ := L
    cases j with
    | zero =>
      refine ⟨aa, args.length, ac, rfl, f1, ?_⟩
      rcases va with ⟨_, e⟩ | ⟨cap, sz, hm⟩
      · left; simpa using e
      · exact .inr ⟨cap, sz, List.mem_map.2 ⟨_, hm, by simp⟩⟩
    | succ j =>
      obtain ⟨aa2, n2, ac2, e, x⟩ := lies_heads f2 L2 j (by simp [F.len] at hj; omega)
      exact ⟨aa2, n2, ac2, by rw [← e, show (j + 1) * 4 + 1 = (j * 4 + 1) + 4 from by omega]; rfl, x⟩
theorem parses_13 {ρ0 : Store} {ns : List Nat} {r0 r1 r2 r3 : Res} {la oa ra : Option Addr} {ln lc oc rn rc pt N i : Nat} {bvs : List (Option Addr × Nat × Nat × Nat)} (hN : N ≤ 1000000) (hi : i < N)
    (fin : ∀ {h : AW} {μ : Paint} {ρ : Store} {cells : List Value}, Own h μ ρ → Pcs ρ0 ρ ns [r0, r1, r2, r3, .sl oa oc 4 cells, .bag bvs] → Heads bvs cells (i + 1) N →
      unitAt P f_brickyardlaw13_ActionParses 10 [0, 3, 5, 6, 7] [.slice la ln lc, .slice oa N oc, .slice ra rn rc, .pointer (some ⟨pt, 0, none⟩), .int .i64 ((i + 1 : Nat) : Int)] h Q)
    {cells : List Value} (hh : Heads bvs cells i N) {aa : Option Addr} {an ac : Nat} (hget : cells[i * 4 + 1]? = some (.slice aa an ac)) (hin : an = 0 ∨ ∃ cap sz, (aa, cap, sz, an) ∈ bvs) (han : an ≤ 140737488355328) :
    ∀ (d k : Nat) {h : AW} {μ : Paint} {ρ : Store}, an - k = d → k ≤ an → Own h μ ρ → Pcs ρ0 ρ ns [r0, r1, r2, r3, .sl oa oc 4 cells, .bag bvs] →
      unitAt P f_brickyardlaw13_ActionParses 13 [0, 3, 5, 6, 7, 8] [.slice la ln lc, .slice oa N oc, .slice ra rn rc, .pointer (some ⟨pt, 0, none⟩), .int .i64 (i : Int), .int .i64 (k : Int)] h Q := by
  intro d
  induction d with
  | zero =>
    intro k h μ ρ hd hk O W
    refine r_brickyardlaw13_ActionParses_13 ?_
    refine (w_sl O W 4 rfl).ix (sz := 4) rfl hh.1 (by omega) hi fun b off ea hr => ?_
    refine oB_bind ((hr 1 (by omega)).trans hget) ?_
    simp only [oB_some, bC_true, bC_false, vInt_int, vBool_bool, vStr_string, vPtr_pointer, vSl_slice, vMap_map, vFun_func, vAgg_agg, vTup_tuple, vIfc_nil, vIfc_iface, lC_cons, lN_nil, aP_some, shO_none, shO_some, Option.isNone_none, Option.isNone_some, Bool.not_true, Bool.not_false]
    rw [show decide ((k : Int) < (an : Int)) = false from decide_eq_false (by omega)]
    simp only [oB_some, bC_true, bC_false, vInt_int, vBool_bool, vStr_string, vPtr_pointer, vSl_slice, vMap_map, vFun_func, vAgg_agg, vTup_tuple, vIfc_nil, vIfc_iface, lC_cons, lN_nil, aP_some, shO_none, shO_some, Option.isNone_none, Option.isNone_some, Bool.not_true, Bool.not_false]
    refine (w_sl O W 4 rfl).ix (sz := 4) rfl hh.1 (by omega) hi fun b off ea _ => ?_
    subst ea
    obtain ⟨h', ρ', ew, O', W'⟩ := o_sl_wrL [.int .i64 0, .slice none 0 0, .int .i64 0, .slice none 0 0] 4 (i * 4) O W rfl (by rw [hh.1]; simp; omega) rfl
    refine oB_bind ew ?_
    rw [wrapS (by omega)]
    refine fin O' W' ⟨by rw [setAll_len]; exact hh.1, fun j h1 h2 => ?_⟩
    obtain ⟨aa2, n2, ac2, e, x⟩ := hh.2 j (by omega) h2
    refine ⟨aa2, n2, ac2, ?_, x⟩
    rw [← e]
    simp only [setAll]
    rw [List.getElem?_set_ne (by omega), List.getElem?_set_ne (by omega), List.getElem?_set_ne (by omega), List.getElem?_set_ne (by omega)]
  | succ d ih =>
    intro k h μ ρ hd hk O W
    refine r_brickyardlaw13_ActionParses_13 ?_
    refine (w_sl O W 4 rfl).ix (sz := 4) rfl hh.1 (by omega) hi fun b off ea hr => ?_
    refine oB_bind ((hr 1 (by omega)).trans hget) ?_
    simp only [oB_some, bC_true, bC_false, vInt_int, vBool_bool, vStr_string, vPtr_pointer, vSl_slice, vMap_map, vFun_func, vAgg_agg, vTup_tuple, vIfc_nil, vIfc_iface, lC_cons, lN_nil, aP_some, shO_none, shO_some, Option.isNone_none, Option.isNone_some, Bool.not_true, Bool.not_false]
    rw [show decide ((k : Int) < (an : Int)) = true from decide_eq_true (by omega)]
    simp only [oB_some, bC_true, bC_false, vInt_int, vBool_bool, vStr_string, vPtr_pointer, vSl_slice, vMap_map, vFun_func, vAgg_agg, vTup_tuple, vIfc_nil, vIfc_iface, lC_cons, lN_nil, aP_some, shO_none, shO_some, Option.isNone_none, Option.isNone_some, Bool.not_true, Bool.not_false]
    refine (w_sl O W 4 rfl).ix (sz := 4) rfl hh.1 (by omega) hi fun b off ea hr => ?_
    refine oB_bind ((hr 1 (by omega)).trans hget) ?_
    simp only [oB_some, bC_true, bC_false, vInt_int, vBool_bool, vStr_string, vPtr_pointer, vSl_slice, vMap_map, vFun_func, vAgg_agg, vTup_tuple, vIfc_nil, vIfc_iface, lC_cons, lN_nil, aP_some, shO_none, shO_some, Option.isNone_none, Option.isNone_some, Bool.not_true, Bool.not_false]
    rcases hin with x | ⟨cap, sz, hm⟩
    · omega
    refine w_bag_wr O W 5 rfl hm rfl rfl (by omega) rfl fun h' ρ' O' W' => ?_
    rw [wrapS (by omega)]
    exact ih (k + 1) (by omega) (by omega) O' W'
theorem parses_loop {ρ0 : Store} {ns : List Nat} {r0 r1 r2 r3 : Res} {la oa ra : Option Addr} {ln lc oc rn rc pt N : Nat} {bvs : List (Option Addr × Nat × Nat × Nat)} (hN : N ≤ 1000000)
    (fin : ∀ {h : AW} {μ : Paint} {ρ : Store} {cells : List Value}, Own h μ ρ → Pcs ρ0 ρ ns [r0, r1, r2, r3, .sl oa oc 4 cells, .bag bvs] →
      unitAt P f_brickyardlaw13_ActionParses 10 [0, 3, 5, 6, 7] [.slice la ln lc, .slice oa N oc, .slice ra rn rc, .pointer (some ⟨pt, 0, none⟩), .int .i64 (N : Int)] h Q) :
    ∀ (d i : Nat) {h : AW} {μ : Paint} {ρ : Store} {cells : List Value}, N - i = d → i ≤ N → Own h μ ρ → Pcs ρ0 ρ ns [r0, r1, r2, r3, .sl oa oc 4 cells, .bag bvs] → Heads bvs cells i N →
      unitAt P f_brickyardlaw13_ActionParses 10 [0, 3, 5, 6, 7] [.slice la ln lc, .slice oa N oc, .slice ra rn rc, .pointer (some ⟨pt, 0, none⟩), .int .i64 (i : Int)] h Q := by
  intro d
  induction d with
  | zero =>
    intro i h μ ρ cells hd hi O W hh
    have : i = N := by omega
    subst this
    exact fin O W
  | succ d ih =>
    intro i h μ ρ cells hd hi O W hh
    refine r_brickyardlaw13_ActionParses_10 ?_
    rw [show decide ((i : Int) < (N : Int)) = true from decide_eq_true (by omega)]
    simp only [oB_some, bC_true, bC_false, vInt_int, vBool_bool, vStr_string, vPtr_pointer, vSl_slice, vMap_map, vFun_func, vAgg_agg, vTup_tuple, vIfc_nil, vIfc_iface, lC_cons, lN_nil, aP_some, shO_none, shO_some, Option.isNone_none, Option.isNone_some, Bool.not_true, Bool.not_false]
    obtain ⟨aa, an, ac, e, y, x⟩ := hh.2 i (Nat.le_refl _) (by omega)
    exact parses_13 hN (by omega) (fun O' W' hh' => ih (i + 1) (by omega) (by omega) O' W' hh') hh e x y _ 0 rfl (Nat.zero_le _) O W
theorem actionParses_ok (O : Own h μ ρ) (E : Errs ρ) (T : Vw ρ [] (some ⟨2, 0, none⟩) pow10) {ps : List Wds} {a : Option Addr} {cap : Nat} (X : Lns ρ ps a) (L : Long (ps.map Wds.x)) (hq : ∀ h', Q (.bool true) h') :
    EvQ P f_brickyardlaw13_ActionParses [.slice a ps.length cap] h Q := by
  refine r_brickyardlaw13_ActionParses ?_
  refine works_ok O fun h1 μ1 ρ1 O1 F1 => ?_
  simp only [oB_some, bC_true, bC_false, vInt_int, vBool_bool, vStr_string, vPtr_pointer, vSl_slice, vMap_map, vFun_func, vAgg_agg, vTup_tuple, vIfc_nil, vIfc_iface, lC_cons, lN_nil, aP_some, shO_none, shO_some, Option.isNone_none, Option.isNone_some, Bool.not_true, Bool.not_false]
  refine wide_ok O1 (X.keep F1) L ?_
  simp only [oB_some, bC_true, bC_false, vInt_int, vBool_bool, vStr_string, vPtr_pointer, vSl_slice, vMap_map, vFun_func, vAgg_agg, vTup_tuple, vIfc_nil, vIfc_iface, lC_cons, lN_nil, aP_some, shO_none, shO_some, Option.isNone_none, Option.isNone_some, Bool.not_true, Bool.not_false]
  refine bC_iff (fun _ => hq _) (fun hw => ?_)
  have M := wide_not hw
  have hlen := M.len
  simp only [List.length_map] at hlen
  have X1 := X.keep F1
  have TB : Tbs (fun s => s.size ≤ 70368744177664) ρ1 := Tbs.keep (tbs_any E T) F1
  obtain ⟨fit, lenf⟩ := fits_parse M
  rw [List.length_map] at lenf
  refine parse_spot O1 TB X1 M (mild_G M) p00 fun h2 h3 μ3 ρ3 s1 co1 cm1 oa1 oc1 cells1 vs1 O3 W3 F3 hs1 hco1 hcm1 L1 => ?_
  refine rparse_spot O3 (X1.keep F3) M W3 fun h4 h5 μ5 ρ5 s2 co2 cm2 oa2 oc2 cells2 vs2 O5 W5 F5 hs2 hco2 hcm2 L2 => ?_
  refine rsame_ok O5 (Ly.of O5 (W5.at_ 4 _ _ rfl rfl) (W5.at_ 5 _ _ rfl rfl) L1) (Ly.of O5 (W5.at_ 1 _ _ rfl rfl) (W5.at_ 2 _ _ rfl rfl) L2) fit (by omega) fun h6 μ6 ρ6 O6 F6 => ?_
  rw [F.eqB_self]
  have W6 := W5.keep0 F6
  repeat (first | refine ⟨rfl, ?_⟩ | refine ⟨trivial, ?_⟩ | simp only [oB_some, bC_true, bC_false, vInt_int, vBool_bool, vStr_string, vPtr_pointer, vSl_slice, vMap_map, vFun_func, vAgg_agg, vTup_tuple, vIfc_nil, vIfc_iface, lC_cons, lN_nil, aP_some, shO_none, shO_some, Option.isNone_none, Option.isNone_some, Bool.not_true, Bool.not_false] | refine w_rd (by assumption) (by assumption) 0 (by rfl) (by rfl) ?_ | refine w_rd (by assumption) (by assumption) 1 (by rfl) (by rfl) ?_ | refine w_rd (by assumption) (by assumption) 2 (by rfl) (by rfl) ?_ | refine w_rd (by assumption) (by assumption) 3 (by rfl) (by rfl) ?_ | refine w_rd (by assumption) (by assumption) 4 (by rfl) (by rfl) ?_ | refine w_rd (by assumption) (by assumption) 5 (by rfl) (by rfl) ?_ | refine w_wrL (by assumption) (by assumption) 0 (by rfl) (Nat.le_of_ble_eq_true (by rfl)) (by rfl) fun h ρz O W => ?_ | refine w_wrL (by assumption) (by assumption) 1 (by rfl) (Nat.le_of_ble_eq_true (by rfl)) (by rfl) fun h ρz O W => ?_ | refine w_wrL (by assumption) (by assumption) 2 (by rfl) (Nat.le_of_ble_eq_true (by rfl)) (by rfl) fun h ρz O W => ?_ | refine w_wrL (by assumption) (by assumption) 3 (by rfl) (Nat.le_of_ble_eq_true (by rfl)) (by rfl) fun h ρz O W => ?_ | refine w_wrL (by assumption) (by assumption) 4 (by rfl) (Nat.le_of_ble_eq_true (by rfl)) (by rfl) fun h ρz O W => ?_ | refine w_wrL (by assumption) (by assumption) 5 (by rfl) (Nat.le_of_ble_eq_true (by rfl)) (by rfl) fun h ρz O W => ?_ | refine w_wr (by assumption) (by assumption) 0 (by rfl) (Nat.le_of_ble_eq_true (by rfl)) (by rfl) fun h ρz O W => ?_ | refine w_wr (by assumption) (by assumption) 1 (by rfl) (Nat.le_of_ble_eq_true (by rfl)) (by rfl) fun h ρz O W => ?_ | refine w_wr (by assumption) (by assumption) 2 (by rfl) (Nat.le_of_ble_eq_true (by rfl)) (by rfl) fun h ρz O W => ?_ | refine w_wr (by assumption) (by assumption) 3 (by rfl) (Nat.le_of_ble_eq_true (by rfl)) (by rfl) fun h ρz O W => ?_ | refine w_wr (by assumption) (by assumption) 4 (by rfl) (Nat.le_of_ble_eq_true (by rfl)) (by rfl) fun h ρz O W => ?_ | refine w_wr (by assumption) (by assumption) 5 (by rfl) (Nat.le_of_ble_eq_true (by rfl)) (by rfl) fun h ρz O W => ?_)
  rw [show (!((parseM (ps.map Wds.x)).2.1 == (parseM (ps.map Wds.x)).2.1 && ((parseM (ps.map Wds.x)).2.2 == (parseM (ps.map Wds.x)).2.2 && true))) = false from by simp]
  simp only [oB_some, bC_true, bC_false, vInt_int, vBool_bool, vStr_string, vPtr_pointer, vSl_slice, vMap_map, vFun_func, vAgg_agg, vTup_tuple, vIfc_nil, vIfc_iface, lC_cons, lN_nil, aP_some, shO_none, shO_some, Option.isNone_none, Option.isNone_some, Bool.not_true, Bool.not_false]
  obtain ⟨ρ7, O7, W7⟩ := w_bag O6 W6 5 rfl
  have fr : ∀ c, c ∈ [s2, co2, cm2, s1, co1, cm1] → ρ1 c = none := fun c hc => by
    simp only [List.mem_cons, List.not_mem_nil, or_false] at hc
    rcases hc with rfl | rfl | rfl | rfl | rfl | rfl <;> assumption
  refine parses_loop (by omega) (fun {h μ ρ'} cells O8 W8 => ?_) _ 0 rfl (Nat.zero_le _) O7 W7 ⟨L1.len, fun j _ hj => lies_heads fit L1 j hj⟩
  have F8 : Fra [] ρ1 ρ' := W8.fra0 fr
  refine r_brickyardlaw13_ActionParses_10 ?_
  rw [show decide (((parseM (ps.map Wds.x)).1.len : Int) < ((parseM (ps.map Wds.x)).1.len : Int)) = false from decide_eq_false (by omega)]
  simp only [oB_some, bC_true, bC_false, vInt_int, vBool_bool, vStr_string, vPtr_pointer, vSl_slice, vMap_map, vFun_func, vAgg_agg, vTup_tuple, vIfc_nil, vIfc_iface, lC_cons, lN_nil, aP_some, shO_none, shO_some, Option.isNone_none, Option.isNone_some, Bool.not_true, Bool.not_false]
  refine parse_spot O8 (TB.keep F8) (X1.keep F8) M (mild_G M) W8 fun h9 h10 μ10 ρ10 s3 co3 cm3 oa3 oc3 cells3 vs3 O10 W10 F10 hs3 hco3 hcm3 L3 => ?_
  refine rsame_ok O10 (Ly.of O10 (W10.at_ 1 _ _ rfl rfl) (W10.at_ 2 _ _ rfl rfl) L3) (Ly.of O10 (W10.at_ 4 _ _ rfl rfl) (W10.at_ 5 _ _ rfl rfl) L2) fit (by omega) fun h11 μ11 ρ11 O11 F11 => ?_
  rw [F.eqB_self]
  have W11 := W10.keep0 F11
  repeat (first | refine ⟨rfl, ?_⟩ | refine ⟨trivial, ?_⟩ | simp only [oB_some, bC_true, bC_false, vInt_int, vBool_bool, vStr_string, vPtr_pointer, vSl_slice, vMap_map, vFun_func, vAgg_agg, vTup_tuple, vIfc_nil, vIfc_iface, lC_cons, lN_nil, aP_some, shO_none, shO_some, Option.isNone_none, Option.isNone_some, Bool.not_true, Bool.not_false] | refine w_rd (by assumption) (by assumption) 0 (by rfl) (by rfl) ?_ | refine w_rd (by assumption) (by assumption) 1 (by rfl) (by rfl) ?_ | refine w_rd (by assumption) (by assumption) 2 (by rfl) (by rfl) ?_ | refine w_rd (by assumption) (by assumption) 3 (by rfl) (by rfl) ?_ | refine w_wrL (by assumption) (by assumption) 0 (by rfl) (Nat.le_of_ble_eq_true (by rfl)) (by rfl) fun h ρz O W => ?_ | refine w_wrL (by assumption) (by assumption) 1 (by rfl) (Nat.le_of_ble_eq_true (by rfl)) (by rfl) fun h ρz O W => ?_ | refine w_wrL (by assumption) (by assumption) 2 (by rfl) (Nat.le_of_ble_eq_true (by rfl)) (by rfl) fun h ρz O W => ?_ | refine w_wrL (by assumption) (by assumption) 3 (by rfl) (Nat.le_of_ble_eq_true (by rfl)) (by rfl) fun h ρz O W => ?_ | refine w_wr (by assumption) (by assumption) 0 (by rfl) (Nat.le_of_ble_eq_true (by rfl)) (by rfl) fun h ρz O W => ?_ | refine w_wr (by assumption) (by assumption) 1 (by rfl) (Nat.le_of_ble_eq_true (by rfl)) (by rfl) fun h ρz O W => ?_ | refine w_wr (by assumption) (by assumption) 2 (by rfl) (Nat.le_of_ble_eq_true (by rfl)) (by rfl) fun h ρz O W => ?_ | refine w_wr (by assumption) (by assumption) 3 (by rfl) (Nat.le_of_ble_eq_true (by rfl)) (by rfl) fun h ρz O W => ?_)
  rw [show ((parseM (ps.map Wds.x)).2.1 == (parseM (ps.map Wds.x)).2.1 && ((parseM (ps.map Wds.x)).2.2 == (parseM (ps.map Wds.x)).2.2 && true)) = true from by simp]
  exact hq _
end Go.Proofs.YtgdkekdedgkglaaDoor
end

section
/- What the rows of layer 13 share: types, a world for the witness. -/
open Go.RowKit
namespace Go.Proofs.YtgdkekdedgkglaaDoor
open Go.Abs Go.Abs.Fo Go.ChangeShapes Go.WideShapes
set_option maxRecDepth 100000
theorem own_knob : ownKnob Tryd.prog.godebug = none := by kernel_rfl
/-- A world for the witness: the tables and the errors hold what their initialisers lay. -/
noncomputable def lowB : Nat := (World.holding Tryd.prog default ⟨#[], #[], []⟩).heap.size
abbrev textRange : ByteArray := ⟨#[118, 97, 108, 117, 101, 32, 111, 117, 116, 32, 111, 102, 32, 114, 97, 110, 103, 101]⟩
abbrev textSyntax : ByteArray := ⟨#[105, 110, 118, 97, 108, 105, 100, 32, 115, 121, 110, 116, 97, 120]⟩
noncomputable def laidW (os : Os) : World :=
  let w0 := World.holding Tryd.prog os ⟨#[.cells #[.string textRange] 155, .cells #[.string textSyntax] 155], #[], []⟩
  { w0 with heap := ((putTab w0.heap [(4, Rows.laid_math_bits_deBruijn32tab), (5, Rows.laid_math_bits_deBruijn64tab), (2, Rows.laid_internal_strconv_uint64pow10)]).modify 1 fun
      | .cells _ t frozen => .cells #[.iface 153 (.pointer (some ⟨lowB, 0, none⟩))] t frozen
      | o => o).modify 0 fun
      | .cells _ t frozen => .cells #[.iface 153 (.pointer (some ⟨lowB + 1, 0, none⟩))] t frozen
      | o => o }
theorem laid_met {args : Array Value} (os : Os) : laidMet Tryd.prog Rows.actionSameRow.laid ((laidW os).forCall (fun _ _ => 0) ⟨#[], args, []⟩).memory :=
  laidMet_of_run' 8 (by kernel_rfl) (by kernel_rfl)
/-- The powers of ten, as the row lists them. -/
theorem pow_good {W : World} {rest : List (String × DataW Unit)} (h : laidMet Tryd.prog (("internal/strconv.uint64pow10", Rows.laid_internal_strconv_uint64pow10) :: rest) W) : GoodV W [(some ⟨2, 0, none⟩, pow10)] := by
  have ht : Lib.TabIs Tryd.prog W "internal/strconv.uint64pow10" .u64 [1, 10, 100, 1000, 10000, 100000, 1000000, 10000000, 100000000, 1000000000, 10000000000, 100000000000, 1000000000000, 10000000000000, 100000000000000, 1000000000000000, 10000000000000000, 100000000000000000, 1000000000000000000, 10000000000000000000] :=
    Lib.tabIs_of_head (g := 2) (t := 157) (e := 137) (n := 20) (by kernel_rfl) (by kernel_rfl) (by kernel_rfl) (by kernel_rfl) (by kernel_rfl) (by kernel_rfl) h
  have hg : Tryd.prog.globalNamed "internal/strconv.uint64pow10" = some 2 := by kernel_rfl
  intro a l hm
  simp at hm
  obtain ⟨rfl, rfl⟩ := hm
  refine ⟨2, 0, rfl, ?_, fun j hj => ?_⟩
  · have := cell_block (ht.cell hg 0 (by simp))
    simp only at this
    omega
  · have hc := ht.cell hg j (by simpa using hj)
    rw [Nat.zero_add]
    have := mir_rd hc (.int _ _)
    rw [this]
    have e : ∀ k : Fin 20, pow10[k.1]? = some (.int .u64 ([1, 10, 100, 1000, 10000, 100000, 1000000, 10000000, 100000000, 1000000000, 10000000000, 100000000000, 1000000000000, 10000000000000, 100000000000000, 1000000000000000, 10000000000000000, 100000000000000000, 1000000000000000000, 10000000000000000000].getD k.1 0)) := by
      intro k
      match k with
      | ⟨0, _⟩ | ⟨1, _⟩ | ⟨2, _⟩ | ⟨3, _⟩ | ⟨4, _⟩ | ⟨5, _⟩ | ⟨6, _⟩ | ⟨7, _⟩ | ⟨8, _⟩ | ⟨9, _⟩ | ⟨10, _⟩ | ⟨11, _⟩ | ⟨12, _⟩ | ⟨13, _⟩ | ⟨14, _⟩ | ⟨15, _⟩ | ⟨16, _⟩ | ⟨17, _⟩ | ⟨18, _⟩ | ⟨19, _⟩ => rfl
      | ⟨k + 20, hk⟩ => exact absurd hk (by omega)
    rw [e ⟨j, by simpa using hj⟩]
    rfl
theorem star_err : "*" ++ "errors.errorString" = "*errors.errorString" := by decide
theorem row_err (u : TypeId) (h : Tryd.prog.typeName? 3 u = some "*errors.errorString") : u = 153 :=
  typeName_ptr_named (nm := "errors.errorString") (by rw [star_err]; kernel_rfl) (by kernel_rfl) (by decide) u (by rw [star_err]; exact h)
/-- The library's two errors, as the row lists them. -/
theorem err_good {W : World} {rest : List (String × DataW Unit)} (h : laidMet Tryd.prog (("strconv.ErrRange", Rows.laid_strconv_ErrRange) :: ("strconv.ErrSyntax", Rows.laid_strconv_ErrSyntax) :: rest) W) :
    ∃ v0 v1, GoodV W [(some ⟨0, 0, none⟩, [.iface 153 v0]), (some ⟨1, 0, none⟩, [.iface 153 v1])] ∧ ifcB v0 = true ∧ ifcB v1 = true := by
  have hg0 : Tryd.prog.globalNamed "strconv.ErrRange" = some 1 := by kernel_rfl
  have hg1 : Tryd.prog.globalNamed "strconv.ErrSyntax" = some 0 := by kernel_rfl
  obtain ⟨a0, a1, s0, s1, c0, c1, t0, t1, hv0, hv1, hc0, _, _, hc1, _⟩ := laid_sentinels2 (P := Tryd.prog) (n0 := "strconv.ErrRange") (n1 := "strconv.ErrSyntax") (g0 := 1) (g1 := 0) (ti := 60) (tp := 153) (te := 155) (ts := 9) h hg0 (by kernel_rfl) hg1 (by kernel_rfl) Tryd.underlying60
    row_err Tryd.underlying153 Tryd.underlying155 rfl rfl Tryd.underlying9 (by kernel_rfl) (by kernel_rfl)
  have good : ∀ (g : Nat) (n : String) (a : Addr) (s : ByteArray), Tryd.prog.globalNamed n = some g → W.var? Tryd.prog n = some #[.iface 153 (.pointer (some a))] → W.cell? a = some (.string s) → GoodV W [(some ⟨g, 0, none⟩, [.iface 153 (.pointer (some a))])] ∧ ifcB (.pointer (some a)) = true := fun g n a s hg hv hc => by
    have hcell := World.var?_cell hg hv 0
    have hcell : W.cell? ⟨g, 0, none⟩ = some (.iface 153 (.pointer (some a))) := hcell
    obtain ⟨hb, hs⟩ := cell_block hc
    obtain ⟨b, off, sp⟩ := a
    simp only at hb hs
    subst hs
    refine ⟨GoodV.nil.cons (by have := (cell_block hcell).1; simp only at this; omega) fun j hj => ?_, rfl⟩
    have : j = 0 := by simpa using hj
    subst this
    exact mir_rd hcell (.iface _ (VRel.ptr (σ := 0) (κ := 0) (argMap_lt hb) (Nat.zero_le _)))
  obtain ⟨x0, y0⟩ := good 1 _ _ _ hg0 hv0 hc0
  obtain ⟨x1, y1⟩ := good 0 _ _ _ hg1 hv1 hc1
  exact ⟨_, _, x1.app x0, y1, y0⟩
theorem errs_of {W : World} {vs : List (Option Addr × List Value)} (G : GoodV W vs) {v0 v1 : Value} (h0 : (some ⟨0, 0, none⟩, [.iface 153 v0]) ∈ vs) (h1 : (some ⟨1, 0, none⟩, [.iface 153 v1]) ∈ vs) (i0 : ifcB v0 = true) (i1 : ifcB v1 = true) : Errs (argStore vs) :=
  ⟨⟨_, _, Vin.vw G (.inr h0), i0⟩, ⟨_, _, Vin.vw G (.inr h1), i1⟩⟩
theorem lns_of {W : World} {ps : List Wds} {a : Option Addr} {vs ws : List (Option Addr × List Value)} (G : GoodV W ws) (hs : ∀ x, x ∈ vs → x ∈ ws) (V : Vin vs a (ps.map Wds.cell)) (L : ∀ p, p ∈ ps → Vin vs p.a (strs p.x) ∧ p.x.length ≤ p.cap) : Lns (argStore ws) ps a :=
  ⟨(V.mono hs).vw G, fun p hp => ((L p hp).1.mono hs).vw G, fun p hp => (L p hp).2⟩
end Go.Proofs.YtgdkekdedgkglaaDoor
end
