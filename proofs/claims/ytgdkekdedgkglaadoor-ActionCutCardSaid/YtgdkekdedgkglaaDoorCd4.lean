/- A deterministic heap for the model, proved sound, and walks of the program over it: part 9. No condition. -/
import Derived.Test.YtgdkekdedgkglaaDoorAb1
import Derived.Test.YtgdkekdedgkglaaDoorAb2
import Derived.Test.YtgdkekdedgkglaaDoorAb3
import Derived.Test.YtgdkekdedgkglaaDoorCd3
import Derived.Test.YtgdkekdedgkglaaDoorCd1
import Derived.Test.YtgdkekdedgkglaaDoorAb5
import Derived.Test.YtgdkekdedgkglaaDoorCd2
import Derived.Test.YtgdkekdedgkglaaDoorAb4
import Derived.Test.YtgdkekdedgkglaaDoorCards
import Derived.Test.YtgdkekdedgkglaaDoorTie
import Derived.OpenShut
import Derived.Stop.LaidTwo
set_option linter.unusedVariables false
set_option linter.unusedSimpArgs false
set_option linter.unusedSectionVars false
section
/- Numbers read from decimal digits by the library; a repeat's number. -/
namespace Go.Proofs.YtgdkekdedgkglaaDoor
open Go.Abs Go.Abs.Fo
set_option maxRecDepth 100000
attribute [local irreducible] unitAt EvQ
variable {h : AW} {μ : Paint} {ρ : Store} {Q : Value → AW → Prop}
/-- A string's bytes in a slice of their own. -/
theorem w_conv (O : Own h μ ρ) {ρ0 : Store} {ns : List Nat} {rs : List Res} (W : Pcs ρ0 ρ ns rs) {s : Str} {f : Value → AW → Prop}
    (H : ∀ h' μ' ρ' c a, Own h' μ' ρ' → Pcs ρ0 ρ' (c :: ns) (.sl a s.size 1 (ofBytes s.data.toList) :: rs) → ρ0 c = none → f (.slice a s.size s.size) h') : oP (convA P h ty_string ty_sl_uint8 (.string s)) f := by
  obtain ⟨c, hc⟩ := O.fresh
  have ha : allOne (ofBytes s.data.toList) = true := allOne_of fun v hv => by
    obtain ⟨b, _, rfl⟩ := List.mem_map.1 hv
    rfl
  have hlen : (ofBytes s.data.toList).length = s.size * 1 := by unfold ofBytes; rw [List.length_map, Nat.mul_one]; rfl
  obtain ⟨h', e, M, C⟩ := newRow_ok (h := h) (μ := μ) (c := c) (S := (· = c)) ha hlen
  unfold convA
  rw [ti_ty_string, ti_ty_sl_uint8]
  simp only
  rw [ti_ty_uint8]
  simp only
  rw [e]
  exact H _ _ _ c _ (O.step (r := .sl (some ⟨h.next, 0, none⟩) s.size 1 (ofBytes s.data.toList)) C M) (W.new hc _) (W.not0 hc)
theorem numL_step {l : List UInt8} {b : UInt8} {n v : Nat} (h : numL (b :: l) n = some v) : 48 ≤ b.toNat ∧ b.toNat ≤ 57 ∧ numL l (10 * n + (b.toNat - 48)) = some v := by
  rw [numL] at h
  split at h
  · cases h
  · rename_i hb
    exact ⟨by omega, by omega, h⟩
theorem wrap8s {b : Nat} (h1 : 48 ≤ b) (h2 : b ≤ 255) : IntKind.wrap .u8 ((b : Int) - 48) = ((b - 48 : Nat) : Int) := by
  rw [show (b : Int) - 48 = ((b - 48 : Nat) : Int) from by omega, wrap8 (by omega)]
theorem atoi_loop {s : Str} (h1 : 1 ≤ s.size) (h2 : s.size < 19) {v : Nat} (hv0 : numL s.data.toList 0 = some v) (hq : RdQ Q ρ (.tuple ⟨[.int .i64 (v : Int), .nilIface]⟩)) :
    ∀ (d k n : Nat) {h : AW} {μ : Paint} {ρ' : Store} {c : Nat} {a : Option Addr}, s.size - k = d → k ≤ s.size → n < 10 ^ k → numL (s.data.toList.drop k) n = some v → Own h μ ρ' → Pcs ρ ρ' [c] [.sl a s.size 1 (ofBytes s.data.toList)] → ρ c = none →
      unitAt P f_strconv_Atoi_78 10 [5, 6, 47, 48, 49] [.string s, .int .i64 (n : Int), .slice a s.size s.size, .int .i64 (s.size : Int), .int .i64 (k : Int)] h Q := by
  have hlen : s.data.toList.length = s.size := rfl
  intro d
  induction d with
  | zero =>
    intro k n h μ ρ' c a hd hk hn hv O W hc
    refine r_strconv_Atoi_78_10 ?_
    rw [geI (by omega)]
    simp only [oB_some, bC_true, bC_false, vInt_int, vBool_bool, vStr_string, vPtr_pointer, vSl_slice, vMap_map, vFun_func, vAgg_agg, vTup_tuple, vIfc_nil, vIfc_iface, lC_cons, lN_nil, aP_some, shO_none, shO_some, Option.isNone_none, Option.isNone_some, Bool.not_true, Bool.not_false]
    rw [List.drop_eq_nil_of_le (by omega), numL] at hv
    simp only [Option.some.injEq] at hv
    subst hv
    rw [show natIdx 0 s.size = some 0 from natIdx_eq (j := 0) (by omega)]
    simp only [oB_some, bC_true, bC_false, vInt_int, vBool_bool, vStr_string, vPtr_pointer, vSl_slice, vMap_map, vFun_func, vAgg_agg, vTup_tuple, vIfc_nil, vIfc_iface, lC_cons, lN_nil, aP_some, shO_none, shO_some, Option.isNone_none, Option.isNone_some, Bool.not_true, Bool.not_false]
    have h0 : 0 < s.data.toList.length := by omega
    have hb : bAt s 0 = some ((s.data.toList[0]).toNat : Int) := by
      unfold bAt
      rw [Array.getElem?_eq_getElem (by exact h0)]
      simp
    refine oB_bind hb ?_
    have hd0 : 48 ≤ (s.data.toList[0]).toNat := by
      have : s.data.toList = s.data.toList[0] :: s.data.toList.drop 1 := by rw [← List.drop_eq_getElem_cons h0, List.drop_zero]
      rw [this] at hv0
      exact (numL_step hv0).1
    rw [show ((((s.data.toList[0]).toNat : Nat) : Int) == 45) = false from by rw [beq_eq_false_iff_ne]; omega]
    simp only [oB_some, bC_true, bC_false, vInt_int, vBool_bool, vStr_string, vPtr_pointer, vSl_slice, vMap_map, vFun_func, vAgg_agg, vTup_tuple, vIfc_nil, vIfc_iface, lC_cons, lN_nil, aP_some, shO_none, shO_some, Option.isNone_none, Option.isNone_some, Bool.not_true, Bool.not_false]
    exact hq _ _ _ O (W.fra0 fun c' hc' => by simp at hc'; rw [hc']; exact hc)
  | succ d ih =>
    intro k n h μ ρ' c a hd hk hn hv O W hc
    have hlt : k < s.size := by omega
    have hlt' : k < s.data.toList.length := by omega
    refine r_strconv_Atoi_78_10 ?_
    rw [ltI hlt]
    simp only [oB_some, bC_true, bC_false, vInt_int, vBool_bool, vStr_string, vPtr_pointer, vSl_slice, vMap_map, vFun_func, vAgg_agg, vTup_tuple, vIfc_nil, vIfc_iface, lC_cons, lN_nil, aP_some, shO_none, shO_some, Option.isNone_none, Option.isNone_some, Bool.not_true, Bool.not_false]
    rw [List.drop_eq_getElem_cons hlt'] at hv
    have hg : (ofBytes s.data.toList)[k]? = some (.int .u8 ((s.data.toList[k]).toNat : Int)) := by
      unfold ofBytes
      rw [List.getElem?_map, List.getElem?_eq_getElem hlt']; rfl
    obtain ⟨b1, b2, hv2⟩ := numL_step hv
    refine (w_sl O W 0 rfl).i1 rfl (by unfold ofBytes; rw [List.length_map]; rfl) hg ?_
    simp only [oB_some, bC_true, bC_false, vInt_int, vBool_bool, vStr_string, vPtr_pointer, vSl_slice, vMap_map, vFun_func, vAgg_agg, vTup_tuple, vIfc_nil, vIfc_iface, lC_cons, lN_nil, aP_some, shO_none, shO_some, Option.isNone_none, Option.isNone_some, Bool.not_true, Bool.not_false]
    rw [wrap8s b1 (by omega)]
    rw [show decide ((((s.data.toList[k]).toNat - 48 : Nat) : Int) > 9) = false from decide_eq_false (by omega)]
    simp only [oB_some, bC_true, bC_false, vInt_int, vBool_bool, vStr_string, vPtr_pointer, vSl_slice, vMap_map, vFun_func, vAgg_agg, vTup_tuple, vIfc_nil, vIfc_iface, lC_cons, lN_nil, aP_some, shO_none, shO_some, Option.isNone_none, Option.isNone_some, Bool.not_true, Bool.not_false]
    have hp : 10 ^ (k + 1) ≤ 10 ^ 18 := Nat.pow_le_pow_right (by omega) (by omega)
    rw [Nat.pow_succ] at hp
    have hp2 : 10 ^ 18 = 1000000000000000000 := rfl
    have hn2 : n * 10 + 9 < 1000000000000000000 := by omega
    rw [Go.Abs.wrap_small (n := (n : Int) * 10) (by omega) (by omega), wrap_sm (n := (((s.data.toList[k]).toNat - 48 : Nat) : Int)) (by omega) (by omega), Go.Abs.wrap_small (n := (n : Int) * 10 + (((s.data.toList[k]).toNat - 48 : Nat) : Int)) (by omega) (by omega), wrapS (by omega)]
    rw [show (n : Int) * 10 + (((s.data.toList[k]).toNat - 48 : Nat) : Int) = ((10 * n + ((s.data.toList[k]).toNat - 48) : Nat) : Int) from by omega]
    exact ih (k + 1) _ (by omega) (by omega) (by rw [Nat.pow_succ]; omega) hv2 O W hc
theorem atoi_ok (O : Own h μ ρ) {s : Str} (h1 : 1 ≤ s.size) (h2 : s.size < 19) {v : Nat} (hv : numL s.data.toList 0 = some v) (hq : RdQ Q ρ (.tuple ⟨[.int .i64 (v : Int), .nilIface]⟩)) : EvQ P f_strconv_Atoi [.string s] h Q := by
  refine r_strconv_Atoi (r_strconv_Atoi_78 ?_)
  rw [show decide ((0 : Int) < (s.size : Int)) = true from decide_eq_true (by omega), show decide ((s.size : Int) < 19) = true from decide_eq_true (by omega)]
  simp only [oB_some, bC_true, bC_false, vInt_int, vBool_bool, vStr_string, vPtr_pointer, vSl_slice, vMap_map, vFun_func, vAgg_agg, vTup_tuple, vIfc_nil, vIfc_iface, lC_cons, lN_nil, aP_some, shO_none, shO_some, Option.isNone_none, Option.isNone_some, Bool.not_true, Bool.not_false]
  rw [show natIdx 0 s.size = some 0 from natIdx_eq (j := 0) (by omega)]
  simp only [oB_some, bC_true, bC_false, vInt_int, vBool_bool, vStr_string, vPtr_pointer, vSl_slice, vMap_map, vFun_func, vAgg_agg, vTup_tuple, vIfc_nil, vIfc_iface, lC_cons, lN_nil, aP_some, shO_none, shO_some, Option.isNone_none, Option.isNone_some, Bool.not_true, Bool.not_false]
  have h0 : 0 < s.data.toList.length := h1
  have hb : bAt s 0 = some ((s.data.toList[0]).toNat : Int) := by
    unfold bAt
    rw [Array.getElem?_eq_getElem (by exact h0)]
    simp
  have hd0 : 48 ≤ (s.data.toList[0]).toNat := by
    have : s.data.toList = s.data.toList[0] :: s.data.toList.drop 1 := by rw [← List.drop_eq_getElem_cons h0, List.drop_zero]
    rw [this] at hv
    exact (numL_step hv).1
  refine oB_bind hb ?_
  rw [show ((((s.data.toList[0]).toNat : Nat) : Int) == 45) = false from by rw [beq_eq_false_iff_ne]; omega]
  simp only [oB_some, bC_true, bC_false, vInt_int, vBool_bool, vStr_string, vPtr_pointer, vSl_slice, vMap_map, vFun_func, vAgg_agg, vTup_tuple, vIfc_nil, vIfc_iface, lC_cons, lN_nil, aP_some, shO_none, shO_some, Option.isNone_none, Option.isNone_some, Bool.not_true, Bool.not_false]
  refine oB_bind hb ?_
  rw [show ((((s.data.toList[0]).toNat : Nat) : Int) == 43) = false from by rw [beq_eq_false_iff_ne]; omega]
  simp only [oB_some, bC_true, bC_false, vInt_int, vBool_bool, vStr_string, vPtr_pointer, vSl_slice, vMap_map, vFun_func, vAgg_agg, vTup_tuple, vIfc_nil, vIfc_iface, lC_cons, lN_nil, aP_some, shO_none, shO_some, Option.isNone_none, Option.isNone_some, Bool.not_true, Bool.not_false]
  refine r_strconv_Atoi_78_8 ?_
  refine w_conv O p00 fun h5 μ2 ρ2 c a O2 W2 hc => ?_
  simp only [oB_some, bC_true, bC_false, vInt_int, vBool_bool, vStr_string, vPtr_pointer, vSl_slice, vMap_map, vFun_func, vAgg_agg, vTup_tuple, vIfc_nil, vIfc_iface, lC_cons, lN_nil, aP_some, shO_none, shO_some, Option.isNone_none, Option.isNone_some, Bool.not_true, Bool.not_false]
  refine atoi_loop h1 h2 hv (fun h3 μ3 ρ3 O3 F3 => ?_) _ 0 0 rfl (by omega) (by simp) hv O2 W2 hc
  simp only [oB_some, bC_true, bC_false, vInt_int, vBool_bool, vStr_string, vPtr_pointer, vSl_slice, vMap_map, vFun_func, vAgg_agg, vTup_tuple, vIfc_nil, vIfc_iface, lC_cons, lN_nil, aP_some, shO_none, shO_some, Option.isNone_none, Option.isNone_some, Bool.not_true, Bool.not_false]
  exact hq _ _ _ O3 F3
theorem digS_len : ∀ k : Fin 1001, (digS k.1).size ≤ 4 ∧ 1 ≤ (digS k.1).size := by decide +kernel
/-- Words of decimal digits. -/
def Digs (s : Str) : Prop := 1 ≤ s.size ∧ s.size < 19 ∧ ∃ v, numL s.data.toList 0 = some v
theorem number_digits (O : Own h μ ρ) (T : Vw ρ [] (some ⟨2, 0, none⟩) pow10) {s : Str} (hs : Digs s) (hq : RdQ Q ρ (.int .i64 (numM s))) : EvQ P f_action_number [.string s] h Q := by
  obtain ⟨h1, h2, v, hv⟩ := hs
  refine r_action_number ?_
  refine atoi_ok O h1 h2 hv fun h3 μ3 ρ3 O3 F3 => ?_
  simp only [oB_some, bC_true, bC_false, vInt_int, vBool_bool, vStr_string, vPtr_pointer, vSl_slice, vMap_map, vFun_func, vAgg_agg, vTup_tuple, vIfc_nil, vIfc_iface, lC_cons, lN_nil, aP_some, shO_none, shO_some, Option.isNone_none, Option.isNone_some, Bool.not_true, Bool.not_false]
  rw [show decide ((v : Int) < 0) = false from decide_eq_false (by omega)]
  simp only [oB_some, bC_true, bC_false, vInt_int, vBool_bool, vStr_string, vPtr_pointer, vSl_slice, vMap_map, vFun_func, vAgg_agg, vTup_tuple, vIfc_nil, vIfc_iface, lC_cons, lN_nil, aP_some, shO_none, shO_some, Option.isNone_none, Option.isNone_some, Bool.not_true, Bool.not_false]
  have hnone : 4 < s.size → numM s = -1 := fun hh => by
    unfold numM; rw [if_pos (.inr hh)]
  refine bC_iff (fun e => ?_) (fun e => ?_)
  · have e : v > 1000 := by have := of_decide_eq_true e; omega
    have : numM s = -1 := by
      by_cases hh : 4 < s.size
      · exact hnone hh
      · unfold numM
        rw [if_neg (by omega), hv]
        simp only
        rw [if_pos (.inl e)]
    rw [this] at hq
    exact hq _ _ _ O3 F3
  have e : v ≤ 1000 := by have := of_decide_eq_false e; omega
  refine itoa_ok O3 (T.keep F3) e fun h4 μ4 ρ4 O4 F4 => ?_
  simp only [oB_some, bC_true, bC_false, vInt_int, vBool_bool, vStr_string, vPtr_pointer, vSl_slice, vMap_map, vFun_func, vAgg_agg, vTup_tuple, vIfc_nil, vIfc_iface, lC_cons, lN_nil, aP_some, shO_none, shO_some, Option.isNone_none, Option.isNone_some, Bool.not_true, Bool.not_false]
  refine bC_iff (fun e2 => ?_) (fun e2 => ?_)
  · have e2 : digS v ≠ s := bEq_false.1 (nb e2)
    have : numM s = -1 := by
      by_cases hh : 4 < s.size
      · exact hnone hh
      · unfold numM
        rw [if_neg (by omega), hv]
        simp only
        rw [if_pos (.inr e2)]
    rw [this] at hq
    exact hq _ _ _ O4 (F3.trans F4)
  · have e2 : digS v = s := bEq_iff.1 (nb' e2)
    have hl := digS_len ⟨v, by omega⟩
    simp only [e2] at hl
    have : numM s = v := by
      unfold numM
      rw [if_neg (by omega), hv]
      simp only
      rw [if_neg (by
        rintro (x | x)
        · omega
        · exact x e2)]
    rw [this] at hq
    exact hq _ _ _ O4 (F3.trans F4)
end Go.Proofs.YtgdkekdedgkglaaDoor
end

section
/- A string's copy; the library's errors. -/
namespace Go.Proofs.YtgdkekdedgkglaaDoor
open Go.Abs Go.Abs.Fo
set_option maxRecDepth 100000
attribute [local irreducible] unitAt EvQ
variable {h : AW} {μ : Paint} {ρ : Store} {Q : Value → AW → Prop}
theorem ti_p_u8 : tiOf P ty_p_uint8 = some ⟨.pointer ty_uint8, false, 1, 8, some (.pointer none)⟩ := by kernel_rfl
theorem lib_clone (O : Own h μ ρ) {s : Str} (hs : s.size ≤ 70368744177664) (hq : RdQ Q ρ (.string s)) : EvQ P f_stringslite_Clone [.string s] h Q := by
  refine r_stringslite_Clone ?_
  refine bC_iff (fun e => ?_) (fun e => ?_)
  · have e : s.size = 0 := by simpa using e
    have : s = ⟨#[]⟩ := by
      apply ByteArray.ext
      exact Array.eq_empty_of_size_eq_zero e
    rw [this] at hq
    exact hq.now O
  have e : s.size ≠ 0 := by simpa using e
  have hrep : ∀ n, allOne (rep [Value.int .u8 0] n) = true := fun n => allOne_of fun v hv => by
    have : ∀ n, ∀ v, v ∈ rep [Value.int .u8 0] n → v = .int .u8 0 := by
      intro n
      induction n with
      | zero => intro v hv; cases hv
      | succ n ih =>
        intro v hv
        rcases List.mem_append.1 hv with x | x
        · simpa using x
        · exact ih v x
    rw [this n v hv]; rfl
  refine w_makeT O p00 ti_ty_sl_uint8 ti_ty_uint8 s.size rfl (hrep _) (by omega) (by omega) fun h1 μ1 ρ1 c d i O1 W1 hc hd => ?_
  simp only [oB_some, bC_true, bC_false, vInt_int, vBool_bool, vStr_string, vPtr_pointer, vSl_slice, vMap_map, vFun_func, vAgg_agg, vTup_tuple, vIfc_nil, vIfc_iface, lC_cons, lN_nil, aP_some, shO_none, shO_some, Option.isNone_none, Option.isNone_some, Bool.not_true, Bool.not_false]
  refine w_copyStr (P := P) O1 W1 0 rfl (by rw [rep_length]; simp [Value.cells]) ti_ty_sl_uint8 ti_ty_uint8 fun h2 ρ2 O2 W2 => ?_
  simp only [oB_some, bC_true, bC_false, vInt_int, vBool_bool, vStr_string, vPtr_pointer, vSl_slice, vMap_map, vFun_func, vAgg_agg, vTup_tuple, vIfc_nil, vIfc_iface, lC_cons, lN_nil, aP_some, shO_none, shO_some, Option.isNone_none, Option.isNone_some, Bool.not_true, Bool.not_false]
  rw [show natIdx 0 s.size = some 0 from natIdx_eq (j := 0) (by omega)]
  simp only [oB_some, bC_true, bC_false, vInt_int, vBool_bool, vStr_string, vPtr_pointer, vSl_slice, vMap_map, vFun_func, vAgg_agg, vTup_tuple, vIfc_nil, vIfc_iface, lC_cons, lN_nil, aP_some, shO_none, shO_some, Option.isNone_none, Option.isNone_some, Bool.not_true, Bool.not_false]
  have hl : s.data.toList.length = s.size := rfl
  refine w_ustr (P := P) (bs := s.data.toList) O2 W2 hc hd ti_p_u8 ti_ty_uint8 rfl rfl (by intro x; rw [x] at hl; simp at hl; omega) (by omega) fun h3 ρ3 O3 W3 => ?_
  simp only [oB_some, bC_true, bC_false, vInt_int, vBool_bool, vStr_string, vPtr_pointer, vSl_slice, vMap_map, vFun_func, vAgg_agg, vTup_tuple, vIfc_nil, vIfc_iface, lC_cons, lN_nil, aP_some, shO_none, shO_some, Option.isNone_none, Option.isNone_some, Bool.not_true, Bool.not_false]
  exact hq _ _ _ O3 (W3.fra0 fun c hc => by cases hc)
/-- One of the library's errors stands at a package variable. -/
def Err1 (ρ : Store) (g : Nat) : Prop := ∃ t v, Vw ρ [] (some ⟨g, 0, none⟩) [.iface t v] ∧ ifcB v = true
theorem Err1.keep {ρ ρ' : Store} {g : Nat} (E : Err1 ρ g) (F : Fra [] ρ ρ') : Err1 ρ' g := by
  obtain ⟨t, v, h1, h2⟩ := E
  exact ⟨t, v, h1.keep F, h2⟩
theorem err_rd (O : Own h μ ρ) {g : Nat} {t : TypeId} {v : Value} (V : Vw ρ [] (some ⟨g, 0, none⟩) [.iface t v]) : h.rd g 0 = some (.iface t v) := by
  have := Fo.Sl.get (j := 0) (v := .iface t v) (V.sl O) rfl
  simpa using this
theorem syntax_ok (O : Own h μ ρ) (E : Err1 ρ 0) {w s : Str} (hs : s.size ≤ 70368744177664) (hq : ∀ h' μ' ρ' p, Own h' μ' ρ' → Fra [] ρ ρ' → Q (.pointer p) h') : EvQ P f_strconv_syntaxError [.string w, .string s] h Q := by
  refine r_strconv_syntaxError ?_
  refine lib_clone O hs fun h1 μ1 ρ1 O1 F1 => ?_
  simp only [oB_some, bC_true, bC_false, vInt_int, vBool_bool, vStr_string, vPtr_pointer, vSl_slice, vMap_map, vFun_func, vAgg_agg, vTup_tuple, vIfc_nil, vIfc_iface, lC_cons, lN_nil, aP_some, shO_none, shO_some, Option.isNone_none, Option.isNone_some, Bool.not_true, Bool.not_false]
  obtain ⟨t, v, V, hi⟩ := E
  refine oB_bind (err_rd O1 (V.keep F1)) ?_
  simp only [oB_some, bC_true, bC_false, vInt_int, vBool_bool, vStr_string, vPtr_pointer, vSl_slice, vMap_map, vFun_func, vAgg_agg, vTup_tuple, vIfc_nil, vIfc_iface, lC_cons, lN_nil, aP_some, shO_none, shO_some, Option.isNone_none, Option.isNone_some, Bool.not_true, Bool.not_false]
  refine ⟨hi, oB_bind (err_rd O V) ?_⟩
  simp only [oB_some, bC_true, bC_false, vInt_int, vBool_bool, vStr_string, vPtr_pointer, vSl_slice, vMap_map, vFun_func, vAgg_agg, vTup_tuple, vIfc_nil, vIfc_iface, lC_cons, lN_nil, aP_some, shO_none, shO_some, Option.isNone_none, Option.isNone_some, Bool.not_true, Bool.not_false]
  refine ⟨trivial, ?_⟩
  obtain ⟨μ2, ρ2, c, O2, W2, hc⟩ := w_new O1 p00 [.string w, .string s, .iface t v]
  exact hq _ _ _ _ O2 (F1.trans (W2.fra0 fun d hd => by simp at hd; rw [hd]; exact hc))
theorem range_ok (O : Own h μ ρ) (E : Err1 ρ 1) {w s : Str} (hs : s.size ≤ 70368744177664) (hq : ∀ h' μ' ρ' p, Own h' μ' ρ' → Fra [] ρ ρ' → Q (.pointer p) h') : EvQ P f_strconv_rangeError [.string w, .string s] h Q := by
  refine r_strconv_rangeError ?_
  refine lib_clone O hs fun h1 μ1 ρ1 O1 F1 => ?_
  simp only [oB_some, bC_true, bC_false, vInt_int, vBool_bool, vStr_string, vPtr_pointer, vSl_slice, vMap_map, vFun_func, vAgg_agg, vTup_tuple, vIfc_nil, vIfc_iface, lC_cons, lN_nil, aP_some, shO_none, shO_some, Option.isNone_none, Option.isNone_some, Bool.not_true, Bool.not_false]
  obtain ⟨t, v, V, hi⟩ := E
  refine oB_bind (err_rd O1 (V.keep F1)) ?_
  simp only [oB_some, bC_true, bC_false, vInt_int, vBool_bool, vStr_string, vPtr_pointer, vSl_slice, vMap_map, vFun_func, vAgg_agg, vTup_tuple, vIfc_nil, vIfc_iface, lC_cons, lN_nil, aP_some, shO_none, shO_some, Option.isNone_none, Option.isNone_some, Bool.not_true, Bool.not_false]
  refine ⟨hi, oB_bind (err_rd O V) ?_⟩
  simp only [oB_some, bC_true, bC_false, vInt_int, vBool_bool, vStr_string, vPtr_pointer, vSl_slice, vMap_map, vFun_func, vAgg_agg, vTup_tuple, vIfc_nil, vIfc_iface, lC_cons, lN_nil, aP_some, shO_none, shO_some, Option.isNone_none, Option.isNone_some, Bool.not_true, Bool.not_false]
  refine ⟨trivial, ?_⟩
  obtain ⟨μ2, ρ2, c, O2, W2, hc⟩ := w_new O1 p00 [.string w, .string s, .iface t v]
  exact hq _ _ _ _ O2 (F1.trans (W2.fra0 fun d hd => by simp at hd; rw [hd]; exact hc))
/-- Both errors of the library. -/
structure Errs (ρ : Store) : Prop where
  syn : Err1 ρ 0
  rng : Err1 ρ 1
theorem Errs.keep {ρ ρ' : Store} (E : Errs ρ) (F : Fra [] ρ ρ') : Errs ρ' := ⟨E.syn.keep F, E.rng.keep F⟩
theorem same_err : ∀ k c : Fin 5, eqV P ty_error false (.iface ty_strconv_Error (.int .i64 (k.1 : Int))) (.iface ty_strconv_Error (.int .i64 (c.1 : Int))) = some (decide (k = c)) := by
  have key : ∀ k c : Int, eqV P ty_error false (.iface ty_strconv_Error (.int .i64 k)) (.iface ty_strconv_Error (.int .i64 c)) = some (k == c) := fun k c => by kernel_rfl
  intro k c
  rw [key]
  congr 1
  rw [Bool.eq_iff_iff]
  simp only [beq_iff_eq, decide_eq_true_eq]
  constructor
  · intro e; apply Fin.ext; omega
  · intro e; rw [e]
/-- An error of a number becomes an error of the package. -/
theorem toError_ok (O : Own h μ ρ) (E : Errs ρ) {w s : Str} (hs : s.size ≤ 70368744177664) {k : Nat} (h1 : k = 1 ∨ k = 2) (hq : ∀ h' μ' ρ' t p, Own h' μ' ρ' → Fra [] ρ ρ' → Q (.iface t (.pointer p)) h') : EvQ P f_strconv_toError [.string w, .string s, .int .i64 0, .int .i64 0, .iface ty_strconv_Error (.int .i64 (k : Int))] h Q := by
  refine r_strconv_toError ?_
  rcases h1 with rfl | rfl
  · refine oB_bind (same_err 1 2) ?_
    show bC false _ _
    simp only [bC_false]
    refine oB_bind (same_err 1 1) ?_
    show bC true _ _
    simp only [bC_true]
    refine range_ok O E.rng hs fun h1 μ1 ρ1 p O1 F1 => ?_
    simp only [oB_some, bC_true, bC_false, vInt_int, vBool_bool, vStr_string, vPtr_pointer, vSl_slice, vMap_map, vFun_func, vAgg_agg, vTup_tuple, vIfc_nil, vIfc_iface, lC_cons, lN_nil, aP_some, shO_none, shO_some, Option.isNone_none, Option.isNone_some, Bool.not_true, Bool.not_false]
    exact hq _ _ _ _ _ O1 F1
  · refine oB_bind (same_err 2 2) ?_
    show bC true _ _
    simp only [bC_true]
    refine syntax_ok O E.syn hs fun h1 μ1 ρ1 p O1 F1 => ?_
    simp only [oB_some, bC_true, bC_false, vInt_int, vBool_bool, vStr_string, vPtr_pointer, vSl_slice, vMap_map, vFun_func, vAgg_agg, vTup_tuple, vIfc_nil, vIfc_iface, lC_cons, lN_nil, aP_some, shO_none, shO_some, Option.isNone_none, Option.isNone_some, Bool.not_true, Bool.not_false]
    exact hq _ _ _ _ _ O1 F1
end Go.Proofs.YtgdkekdedgkglaaDoor
end

section
/- Numbers read by the library from any word. -/
namespace Go.Proofs.YtgdkekdedgkglaaDoor
open Go.Abs Go.Abs.Fo
set_option maxRecDepth 100000
attribute [local irreducible] unitAt EvQ
variable {h : AW} {μ : Paint} {ρ : Store} {Q : Value → AW → Prop}
theorem lower_any {n : Int} (hq : ∀ m, Q (.int .u8 m) h) : EvQ P f_strconv_lower [.int .u8 n] h Q := r_strconv_lower (hq _)
/-- Whatever number, or an error. -/
structure UQ (Q : Value → AW → Prop) (ρ : Store) (k : IntKind) : Prop where
  ok : ∀ n, RdQ Q ρ (.tuple ⟨[.int k n, .nilIface]⟩)
  er : ∀ n (e : Nat), e = 1 ∨ e = 2 → RdQ Q ρ (.tuple ⟨[.int k n, .iface ty_strconv_Error (.int .i64 (e : Int))]⟩)
theorem uint_loop {s s3 : Str} {n4 n5 : Int} (hs : s.size ≤ 70368744177664) (U : UQ Q ρ .u64) :
    ∀ (d k : Nat) {n7 : Int} {h : AW} {μ : Paint} {ρ' : Store} {c : Nat} {a : Option Addr}, s.size - k = d → k ≤ s.size → Own h μ ρ' → Pcs ρ ρ' [c] [.sl a s.size 1 (ofBytes s.data.toList)] → ρ c = none →
      unitAt P f_strconv_ParseUint 36 [1, 8, 9, 10, 11, 12, 13, 99, 100, 101] [.int .i64 10, .bool false, .string s3, .int .u64 n4, .int .u64 n5, .bool false, .int .u64 n7, .slice a s.size s.size, .int .i64 (s.size : Int), .int .i64 (k : Int)] h Q := by
  have hlen : s.data.toList.length = s.size := rfl
  intro d
  induction d with
  | zero =>
    intro k n7 h μ ρ' c a hd hk O W hc
    refine r_strconv_ParseUint_36 ?_
    rw [geI (by omega)]
    simp only [oB_some, bC_true, bC_false, vInt_int, vBool_bool, vStr_string, vPtr_pointer, vSl_slice, vMap_map, vFun_func, vAgg_agg, vTup_tuple, vIfc_nil, vIfc_iface, lC_cons, lN_nil, aP_some, shO_none, shO_some, Option.isNone_none, Option.isNone_some, Bool.not_true, Bool.not_false]
    exact (U.ok _) _ _ _ O (W.fra0 fun c' hc' => by simp at hc'; rw [hc']; exact hc)
  | succ d ih =>
    intro k n7 h μ ρ' c a hd hk O W hc
    have hlt : k < s.size := by omega
    have hlt' : k < s.data.toList.length := by omega
    have F : Fra [] ρ ρ' := W.fra0 fun c' hc' => by simp at hc'; rw [hc']; exact hc
    have er : ∀ n (e : Nat), e = 1 ∨ e = 2 → Q (.tuple ⟨[.int .u64 n, .iface ty_strconv_Error (.int .i64 (e : Int))]⟩) h := fun n e he => U.er n e he _ _ _ O F
    have u46 : ∀ n8 : Int, unitAt P f_strconv_ParseUint 46 [1, 8, 9, 10, 11, 12, 13, 16, 99, 100, 101] [.int .i64 10, .bool false, .string s3, .int .u64 n4, .int .u64 n5, .bool false, .int .u64 n7, .int .u8 n8, .slice a s.size s.size, .int .i64 (s.size : Int), .int .i64 (k : Int)] h Q := by
      intro n8
      refine r_strconv_ParseUint_46 ?_
      refine bC_iff (fun _ => er 0 2 (.inr rfl)) (fun _ => ?_)
      refine bC_iff (fun _ => er _ 1 (.inl rfl)) (fun _ => ?_)
      refine bC_iff (fun _ => er _ 1 (.inl rfl)) (fun _ => ?_)
      refine bC_iff (fun _ => er _ 1 (.inl rfl)) (fun _ => ?_)
      rw [wrapS (by omega)]
      exact ih (k + 1) (by omega) (by omega) O W hc
    refine r_strconv_ParseUint_36 ?_
    rw [ltI hlt]
    simp only [oB_some, bC_true, bC_false, vInt_int, vBool_bool, vStr_string, vPtr_pointer, vSl_slice, vMap_map, vFun_func, vAgg_agg, vTup_tuple, vIfc_nil, vIfc_iface, lC_cons, lN_nil, aP_some, shO_none, shO_some, Option.isNone_none, Option.isNone_some, Bool.not_true, Bool.not_false]
    have hg : (ofBytes s.data.toList)[k]? = some (.int .u8 ((s.data.toList[k]).toNat : Int)) := by
      unfold ofBytes
      rw [List.getElem?_map, List.getElem?_eq_getElem hlt']; rfl
    refine (w_sl O W 0 rfl).i1 rfl (by unfold ofBytes; rw [List.length_map]; rfl) hg ?_
    simp only [oB_some, bC_true, bC_false, vInt_int, vBool_bool, vStr_string, vPtr_pointer, vSl_slice, vMap_map, vFun_func, vAgg_agg, vTup_tuple, vIfc_nil, vIfc_iface, lC_cons, lN_nil, aP_some, shO_none, shO_some, Option.isNone_none, Option.isNone_some, Bool.not_true, Bool.not_false]
    repeat' (first | exact u46 _ | exact er 0 2 (.inr rfl) | refine bC_iff (fun _ => ?_) (fun _ => ?_) | (refine lower_any fun m => ?_; simp only [oB_some, bC_true, bC_false, vInt_int, vBool_bool, vStr_string, vPtr_pointer, vSl_slice, vMap_map, vFun_func, vAgg_agg, vTup_tuple, vIfc_nil, vIfc_iface, lC_cons, lN_nil, aP_some, shO_none, shO_some, Option.isNone_none, Option.isNone_some, Bool.not_true, Bool.not_false]))
theorem uint_any (O : Own h μ ρ) {s : Str} (hs : s.size ≤ 70368744177664) (U : UQ Q ρ .u64) : EvQ P f_strconv_ParseUint [.string s, .int .i64 10, .int .i64 0] h Q := by
  refine r_strconv_ParseUint ?_
  refine bC_iff (fun _ => U.er 0 2 (.inr rfl) _ _ _ O Fra.refl) (fun _ => ?_)
  rw [show decide ((2 : Int) ≤ 10) = true from rfl, show decide ((10 : Int) ≤ 36) = true from rfl, show ((10 : Int) == 0) = false from rfl]
  simp only [oB_some, bC_true, bC_false, vInt_int, vBool_bool, vStr_string, vPtr_pointer, vSl_slice, vMap_map, vFun_func, vAgg_agg, vTup_tuple, vIfc_nil, vIfc_iface, lC_cons, lN_nil, aP_some, shO_none, shO_some, Option.isNone_none, Option.isNone_some, Bool.not_true, Bool.not_false]
  refine r_strconv_ParseUint_21 ?_
  rw [show ((0 : Int) == 0) = true from rfl]
  simp only [oB_some, bC_true, bC_false, vInt_int, vBool_bool, vStr_string, vPtr_pointer, vSl_slice, vMap_map, vFun_func, vAgg_agg, vTup_tuple, vIfc_nil, vIfc_iface, lC_cons, lN_nil, aP_some, shO_none, shO_some, Option.isNone_none, Option.isNone_some, Bool.not_true, Bool.not_false]
  refine r_strconv_ParseUint_25 ?_
  rw [show ((10 : Int) == 10) = true from rfl]
  simp only [oB_some, bC_true, bC_false, vInt_int, vBool_bool, vStr_string, vPtr_pointer, vSl_slice, vMap_map, vFun_func, vAgg_agg, vTup_tuple, vIfc_nil, vIfc_iface, lC_cons, lN_nil, aP_some, shO_none, shO_some, Option.isNone_none, Option.isNone_some, Bool.not_true, Bool.not_false]
  refine r_strconv_ParseUint_32 ?_
  rw [show decide (IntKind.wrap IntKind.u64 64 < 0) = false from rfl]
  simp only [oB_some, bC_true, bC_false, vInt_int, vBool_bool, vStr_string, vPtr_pointer, vSl_slice, vMap_map, vFun_func, vAgg_agg, vTup_tuple, vIfc_nil, vIfc_iface, lC_cons, lN_nil, aP_some, shO_none, shO_some, Option.isNone_none, Option.isNone_some, Bool.not_true, Bool.not_false]
  refine w_conv O p00 fun h1 μ1 ρ1 c a O1 W1 hc => ?_
  simp only [oB_some, bC_true, bC_false, vInt_int, vBool_bool, vStr_string, vPtr_pointer, vSl_slice, vMap_map, vFun_func, vAgg_agg, vTup_tuple, vIfc_nil, vIfc_iface, lC_cons, lN_nil, aP_some, shO_none, shO_some, Option.isNone_none, Option.isNone_some, Bool.not_true, Bool.not_false]
  exact uint_loop hs U _ 0 rfl (by omega) O1 W1 hc
theorem int_16 (O : Own h μ ρ) {b : Bool} {n : Int} (U : UQ Q ρ .i64) : unitAt P f_strconv_ParseInt 16 [2, 8, 9] [.int .i64 64, .bool b, .int .u64 n] h Q := by
  refine r_strconv_ParseInt_16 ?_
  rw [show decide (IntKind.wrap IntKind.u64 (IntKind.wrap IntKind.i64 (64 - 1)) < 0) = false from rfl]
  simp only [oB_some, bC_true, bC_false, vInt_int, vBool_bool, vStr_string, vPtr_pointer, vSl_slice, vMap_map, vFun_func, vAgg_agg, vTup_tuple, vIfc_nil, vIfc_iface, lC_cons, lN_nil, aP_some, shO_none, shO_some, Option.isNone_none, Option.isNone_some, Bool.not_true, Bool.not_false]
  repeat' (first | exact U.er _ 1 (.inl rfl) _ _ _ O Fra.refl | exact U.ok _ _ _ _ O Fra.refl | refine bC_iff (fun _ => ?_) (fun _ => ?_))
theorem UQ.keep {ρ' : Store} {k : IntKind} (U : UQ Q ρ k) (F : Fra [] ρ ρ') : UQ Q ρ' k := ⟨fun n => (U.ok n).keep F, fun n e he => (U.er n e he).keep F⟩
theorem int_10 (O : Own h μ ρ) {s : Str} (hs : s.size ≤ 70368744177664) {b : Bool} (U : UQ Q ρ .i64) : unitAt P f_strconv_ParseInt 10 [0, 1, 2, 8] [.string s, .int .i64 10, .int .i64 0, .bool b] h Q := by
  refine r_strconv_ParseInt_10 ?_
  refine uint_any O hs ⟨fun n h1 μ1 ρ1 O1 F1 => ?_, fun n e he h1 μ1 ρ1 O1 F1 => ?_⟩
  · simp only [oB_some, bC_true, bC_false, vInt_int, vBool_bool, vStr_string, vPtr_pointer, vSl_slice, vMap_map, vFun_func, vAgg_agg, vTup_tuple, vIfc_nil, vIfc_iface, lC_cons, lN_nil, aP_some, shO_none, shO_some, Option.isNone_none, Option.isNone_some, Bool.not_true, Bool.not_false]
    rw [show ((0 : Int) == 0) = true from rfl]
    simp only [oB_some, bC_true, bC_false, vInt_int, vBool_bool, vStr_string, vPtr_pointer, vSl_slice, vMap_map, vFun_func, vAgg_agg, vTup_tuple, vIfc_nil, vIfc_iface, lC_cons, lN_nil, aP_some, shO_none, shO_some, Option.isNone_none, Option.isNone_some, Bool.not_true, Bool.not_false]
    exact int_16 O1 (U.keep F1)
  · simp only [oB_some, bC_true, bC_false, vInt_int, vBool_bool, vStr_string, vPtr_pointer, vSl_slice, vMap_map, vFun_func, vAgg_agg, vTup_tuple, vIfc_nil, vIfc_iface, lC_cons, lN_nil, aP_some, shO_none, shO_some, Option.isNone_none, Option.isNone_some, Bool.not_true, Bool.not_false]
    rcases he with rfl | rfl
    · refine oB_bind (same_err 1 1) ?_
      show bC false _ _
      simp only [bC_false]
      rw [show ((0 : Int) == 0) = true from rfl]
      simp only [oB_some, bC_true, bC_false, vInt_int, vBool_bool, vStr_string, vPtr_pointer, vSl_slice, vMap_map, vFun_func, vAgg_agg, vTup_tuple, vIfc_nil, vIfc_iface, lC_cons, lN_nil, aP_some, shO_none, shO_some, Option.isNone_none, Option.isNone_some, Bool.not_true, Bool.not_false]
      exact int_16 O1 (U.keep F1)
    · refine oB_bind (same_err 2 1) ?_
      show bC true _ _
      simp only [bC_true]
      exact U.er 0 2 (.inr rfl) _ _ _ O1 F1
theorem bAt_lt {s : Str} {k : Nat} (hk : k < s.size) : bAt s k = some ((s.data.toList[k]'hk).toNat : Int) := by
  unfold bAt
  rw [Array.getElem?_eq_getElem (by exact hk)]
  simp
theorem sub_size {s : Str} {a b : Nat} : (bSub s a b).size ≤ s.size := by
  show (List.take (b - a) (List.drop a s.data.toList)).length ≤ s.data.toList.length
  rw [List.length_take, List.length_drop]; omega
theorem int_any (O : Own h μ ρ) {s : Str} (hs : s.size ≤ 70368744177664) (U : UQ Q ρ .i64) : EvQ P f_strconv_ParseInt [.string s, .int .i64 10, .int .i64 0] h Q := by
  refine r_strconv_ParseInt ?_
  refine bC_iff (fun _ => U.er 0 2 (.inr rfl) _ _ _ O Fra.refl) (fun e => ?_)
  have h0 : 0 < s.size := by
    rcases Nat.eq_zero_or_pos s.size with z | z
    · have : s = ⟨#[]⟩ := ByteArray.ext (Array.eq_empty_of_size_eq_zero z)
      rw [this] at e; simp at e
    · exact z
  rw [show natIdx 0 s.size = some 0 from natIdx_eq (j := 0) h0, show natBnd 1 s.size = some 1 from natBnd_eq (j := 1) h0]
  simp only [oB_some, bC_true, bC_false, vInt_int, vBool_bool, vStr_string, vPtr_pointer, vSl_slice, vMap_map, vFun_func, vAgg_agg, vTup_tuple, vIfc_nil, vIfc_iface, lC_cons, lN_nil, aP_some, shO_none, shO_some, Option.isNone_none, Option.isNone_some, Bool.not_true, Bool.not_false]
  refine oB_bind (bAt_lt h0) ?_
  refine bC_iff (fun _ => int_10 O (Nat.le_trans sub_size hs) U) (fun _ => ?_)
  refine bC_iff (fun _ => int_10 O (Nat.le_trans sub_size hs) U) (fun _ => int_10 O hs U)
/-- The short way, for any word and any start: a number, or an error. -/
theorem any_loop {s0 s : Str} (h0 : 0 < s0.size) (hs : s.size ≤ 70368744177664) (U : UQ Q ρ .i64) :
    ∀ (d k : Nat) {n : Int} {h : AW} {μ : Paint} {ρ' : Store} {c : Nat} {a : Option Addr}, s.size - k = d → k ≤ s.size → Own h μ ρ' → Pcs ρ ρ' [c] [.sl a s.size 1 (ofBytes s.data.toList)] → ρ c = none →
      unitAt P f_strconv_Atoi_78 10 [5, 6, 47, 48, 49] [.string s0, .int .i64 n, .slice a s.size s.size, .int .i64 (s.size : Int), .int .i64 (k : Int)] h Q := by
  have hlen : s.data.toList.length = s.size := rfl
  intro d
  induction d with
  | zero =>
    intro k n h μ ρ' c a hd hk O W hc
    have F : Fra [] ρ ρ' := W.fra0 fun c' hc' => by simp at hc'; rw [hc']; exact hc
    refine r_strconv_Atoi_78_10 ?_
    rw [geI (by omega), show natIdx 0 s0.size = some 0 from natIdx_eq (j := 0) h0]
    simp only [oB_some, bC_true, bC_false, vInt_int, vBool_bool, vStr_string, vPtr_pointer, vSl_slice, vMap_map, vFun_func, vAgg_agg, vTup_tuple, vIfc_nil, vIfc_iface, lC_cons, lN_nil, aP_some, shO_none, shO_some, Option.isNone_none, Option.isNone_some, Bool.not_true, Bool.not_false]
    refine oB_bind (bAt_lt h0) ?_
    exact bC_iff (fun _ => U.ok _ _ _ _ O F) (fun _ => U.ok _ _ _ _ O F)
  | succ d ih =>
    intro k n h μ ρ' c a hd hk O W hc
    have hlt : k < s.size := by omega
    have hlt' : k < s.data.toList.length := by omega
    have F : Fra [] ρ ρ' := W.fra0 fun c' hc' => by simp at hc'; rw [hc']; exact hc
    refine r_strconv_Atoi_78_10 ?_
    rw [ltI hlt]
    simp only [oB_some, bC_true, bC_false, vInt_int, vBool_bool, vStr_string, vPtr_pointer, vSl_slice, vMap_map, vFun_func, vAgg_agg, vTup_tuple, vIfc_nil, vIfc_iface, lC_cons, lN_nil, aP_some, shO_none, shO_some, Option.isNone_none, Option.isNone_some, Bool.not_true, Bool.not_false]
    have hg : (ofBytes s.data.toList)[k]? = some (.int .u8 ((s.data.toList[k]).toNat : Int)) := by
      unfold ofBytes
      rw [List.getElem?_map, List.getElem?_eq_getElem hlt']; rfl
    refine (w_sl O W 0 rfl).i1 rfl (by unfold ofBytes; rw [List.length_map]; rfl) hg ?_
    simp only [oB_some, bC_true, bC_false, vInt_int, vBool_bool, vStr_string, vPtr_pointer, vSl_slice, vMap_map, vFun_func, vAgg_agg, vTup_tuple, vIfc_nil, vIfc_iface, lC_cons, lN_nil, aP_some, shO_none, shO_some, Option.isNone_none, Option.isNone_some, Bool.not_true, Bool.not_false]
    refine bC_iff (fun _ => U.er 0 2 (.inr rfl) _ _ _ O F) (fun _ => ?_)
    rw [wrapS (by omega)]
    exact ih (k + 1) (by omega) (by omega) O W hc
theorem atoi8_any (O : Own h μ ρ) {s0 s : Str} (h0 : 0 < s0.size) (hs : s.size ≤ 70368744177664) (U : UQ Q ρ .i64) : unitAt P f_strconv_Atoi_78 8 [0, 5] [.string s, .string s0] h Q := by
  refine r_strconv_Atoi_78_8 ?_
  refine w_conv O p00 fun h5 μ2 ρ2 c a O2 W2 hc => ?_
  simp only [oB_some, bC_true, bC_false, vInt_int, vBool_bool, vStr_string, vPtr_pointer, vSl_slice, vMap_map, vFun_func, vAgg_agg, vTup_tuple, vIfc_nil, vIfc_iface, lC_cons, lN_nil, aP_some, shO_none, shO_some, Option.isNone_none, Option.isNone_some, Bool.not_true, Bool.not_false]
  exact any_loop h0 hs U _ 0 rfl (by omega) O2 W2 hc
theorem atoi78_any (O : Own h μ ρ) {s : Str} (hs : s.size ≤ 70368744177664) (U : UQ Q ρ .i64) : EvQ P f_strconv_Atoi_78 [.string s] h Q := by
  have slow : EvQ P f_strconv_ParseInt [.string s, .int .i64 10, .int .i64 0] h fun v8 h9 => vTup v8 fun l10 => lC l10 fun v11 l12 => vInt IntKind.i64 v11 fun n13 => lC l12 fun v14 l15 =>
      vIfc v14 (lN l15 (Q (Value.tuple (Array.mk [Value.int IntKind.i64 n13, Value.nilIface])) h9)) fun m16 v17 => lN l15 (Q (Value.tuple (Array.mk [Value.int IntKind.i64 n13, Value.iface m16 v17])) h9) := by
    refine int_any O hs ⟨fun n h1 μ1 ρ1 O1 F1 => ?_, fun n e he h1 μ1 ρ1 O1 F1 => ?_⟩
    · simp only [oB_some, bC_true, bC_false, vInt_int, vBool_bool, vStr_string, vPtr_pointer, vSl_slice, vMap_map, vFun_func, vAgg_agg, vTup_tuple, vIfc_nil, vIfc_iface, lC_cons, lN_nil, aP_some, shO_none, shO_some, Option.isNone_none, Option.isNone_some, Bool.not_true, Bool.not_false]
      exact U.ok _ _ _ _ O1 F1
    · simp only [oB_some, bC_true, bC_false, vInt_int, vBool_bool, vStr_string, vPtr_pointer, vSl_slice, vMap_map, vFun_func, vAgg_agg, vTup_tuple, vIfc_nil, vIfc_iface, lC_cons, lN_nil, aP_some, shO_none, shO_some, Option.isNone_none, Option.isNone_some, Bool.not_true, Bool.not_false]
      exact U.er _ e he _ _ _ O1 F1
  refine r_strconv_Atoi_78 ?_
  refine bC_iff (fun e => ?_) (fun _ => slow)
  have h0 : 0 < s.size := by have := of_decide_eq_true e; omega
  refine bC_iff (fun _ => ?_) (fun _ => slow)
  rw [show natIdx 0 s.size = some 0 from natIdx_eq (j := 0) h0, show natBnd 1 s.size = some 1 from natBnd_eq (j := 1) h0]
  simp only [oB_some, bC_true, bC_false, vInt_int, vBool_bool, vStr_string, vPtr_pointer, vSl_slice, vMap_map, vFun_func, vAgg_agg, vTup_tuple, vIfc_nil, vIfc_iface, lC_cons, lN_nil, aP_some, shO_none, shO_some, Option.isNone_none, Option.isNone_some, Bool.not_true, Bool.not_false]
  refine oB_bind (bAt_lt h0) ?_
  have er := fun n => U.er n 2 (.inr rfl) _ _ _ O Fra.refl
  refine bC_iff (fun _ => ?_) (fun _ => ?_)
  · exact bC_iff (fun _ => er _) (fun _ => atoi8_any O h0 (Nat.le_trans sub_size hs) U)
  · refine oB_bind (bAt_lt h0) ?_
    refine bC_iff (fun _ => ?_) (fun _ => atoi8_any O h0 hs U)
    exact bC_iff (fun _ => er _) (fun _ => atoi8_any O h0 (Nat.le_trans sub_size hs) U)
/-- Whatever the library makes of a word: some number, or an error. -/
theorem atoi_any (O : Own h μ ρ) (E : Errs ρ) {s : Str} (hs : s.size ≤ 70368744177664) (h1 : ∀ n, RdQ Q ρ (.tuple ⟨[.int .i64 n, .nilIface]⟩)) (h2 : ∀ n t p, RdQ Q ρ (.tuple ⟨[.int .i64 n, .iface t (.pointer p)]⟩)) : EvQ P f_strconv_Atoi [.string s] h Q := by
  refine r_strconv_Atoi ?_
  refine atoi78_any O hs ⟨fun n h3 μ3 ρ3 O3 F3 => ?_, fun n e he h3 μ3 ρ3 O3 F3 => ?_⟩
  · simp only [oB_some, bC_true, bC_false, vInt_int, vBool_bool, vStr_string, vPtr_pointer, vSl_slice, vMap_map, vFun_func, vAgg_agg, vTup_tuple, vIfc_nil, vIfc_iface, lC_cons, lN_nil, aP_some, shO_none, shO_some, Option.isNone_none, Option.isNone_some, Bool.not_true, Bool.not_false]
    exact h1 _ _ _ _ O3 F3
  · simp only [oB_some, bC_true, bC_false, vInt_int, vBool_bool, vStr_string, vPtr_pointer, vSl_slice, vMap_map, vFun_func, vAgg_agg, vTup_tuple, vIfc_nil, vIfc_iface, lC_cons, lN_nil, aP_some, shO_none, shO_some, Option.isNone_none, Option.isNone_some, Bool.not_true, Bool.not_false]
    refine toError_ok O3 (E.keep F3) hs he fun h4 μ4 ρ4 t p O4 F4 => ?_
    simp only [oB_some, bC_true, bC_false, vInt_int, vBool_bool, vStr_string, vPtr_pointer, vSl_slice, vMap_map, vFun_func, vAgg_agg, vTup_tuple, vIfc_nil, vIfc_iface, lC_cons, lN_nil, aP_some, shO_none, shO_some, Option.isNone_none, Option.isNone_some, Bool.not_true, Bool.not_false]
    exact h2 _ _ _ _ _ _ O4 (F3.trans F4)
theorem numM_bad {s : Str} (hd : ¬ ∃ v, v ≤ 1000 ∧ digS v = s) : numM s = -1 := by
  unfold numM
  split
  · rfl
  · split
    · rfl
    · rename_i n _
      rw [if_pos]
      by_cases h : n > 1000
      · exact .inl h
      · exact .inr fun e => hd ⟨n, by omega, e⟩
theorem numL_dig : ∀ k : Fin 1001, numL (digS k.1).data.toList 0 = some k.1 := by decide +kernel
theorem number_any (O : Own h μ ρ) (E : Errs ρ) (T : Vw ρ [] (some ⟨2, 0, none⟩) pow10) {s : Str} (hs : s.size ≤ 70368744177664) (hq : RdQ Q ρ (.int .i64 (numM s))) : EvQ P f_action_number [.string s] h Q := by
  by_cases hd : ∃ v, v ≤ 1000 ∧ digS v = s
  · obtain ⟨v, hv, rfl⟩ := hd
    have hl := digS_len ⟨v, by omega⟩
    simp only at hl
    exact number_digits O T ⟨hl.2, by omega, v, numL_dig ⟨v, by omega⟩⟩ hq
  · rw [numM_bad hd] at hq
    refine r_action_number ?_
    refine atoi_any O E hs (fun n h3 μ3 ρ3 O3 F3 => ?_) (fun n t p h3 μ3 ρ3 O3 F3 => ?_)
    · simp only [oB_some, bC_true, bC_false, vInt_int, vBool_bool, vStr_string, vPtr_pointer, vSl_slice, vMap_map, vFun_func, vAgg_agg, vTup_tuple, vIfc_nil, vIfc_iface, lC_cons, lN_nil, aP_some, shO_none, shO_some, Option.isNone_none, Option.isNone_some, Bool.not_true, Bool.not_false]
      refine bC_iff (fun _ => hq _ _ _ O3 F3) (fun e1 => ?_)
      refine bC_iff (fun _ => hq _ _ _ O3 F3) (fun e2 => ?_)
      have e1 := of_decide_eq_false e1
      have e2 := of_decide_eq_false e2
      obtain ⟨v, rfl⟩ : ∃ v : Nat, n = v := ⟨n.toNat, by omega⟩
      refine itoa_ok O3 (T.keep F3) (by omega) fun h4 μ4 ρ4 O4 F4 => ?_
      simp only [oB_some, bC_true, bC_false, vInt_int, vBool_bool, vStr_string, vPtr_pointer, vSl_slice, vMap_map, vFun_func, vAgg_agg, vTup_tuple, vIfc_nil, vIfc_iface, lC_cons, lN_nil, aP_some, shO_none, shO_some, Option.isNone_none, Option.isNone_some, Bool.not_true, Bool.not_false]
      refine bC_iff (fun _ => hq _ _ _ O4 (F3.trans F4)) (fun e => ?_)
      exact (hd ⟨v, by omega, bEq_iff.1 (nb' e)⟩).elim
    · simp only [oB_some, bC_true, bC_false, vInt_int, vBool_bool, vStr_string, vPtr_pointer, vSl_slice, vMap_map, vFun_func, vAgg_agg, vTup_tuple, vIfc_nil, vIfc_iface, lC_cons, lN_nil, aP_some, shO_none, shO_some, Option.isNone_none, Option.isNone_some, Bool.not_true, Bool.not_false]
      exact hq _ _ _ O3 F3
/-- The number may be asked of any word. -/
theorem tbs_any (E : Errs ρ) (T : Vw ρ [] (some ⟨2, 0, none⟩) pow10) : Tbs (fun s => s.size ≤ 70368744177664) ρ := fun O F g hq => number_any O (E.keep F) (T.keep F) g hq
end Go.Proofs.YtgdkekdedgkglaaDoor
end

section
/- Lines of words built piece by piece. -/
namespace Go.Proofs.YtgdkekdedgkglaaDoor
open Go.Abs Go.Abs.Fo
set_option maxRecDepth 100000
attribute [local irreducible] unitAt EvQ
variable {h : AW} {μ : Paint} {ρ : Store} {Q : Value → AW → Prop}
/-- Lines whose words lie among many. -/
def Built (vs : List (Option Addr × Nat × Nat × List Value)) (ps : List Wds) : Prop := ∀ p, p ∈ ps → Vm vs p.a (strs p.x) ∧ p.x.length ≤ p.cap
theorem Built.nil {vs : List (Option Addr × Nat × Nat × List Value)} : Built vs [] := fun p hp => by simp at hp
theorem Built.more {vs ws : List (Option Addr × Nat × Nat × List Value)} {ps : List Wds} (B : Built vs ps) (hs : ∀ x, x ∈ vs → x ∈ ws) : Built ws ps := fun p hp => ⟨(B p hp).1.more hs, (B p hp).2⟩
theorem Built.app {vs : List (Option Addr × Nat × Nat × List Value)} {ps qs : List Wds} (B : Built vs ps) (C : Built vs qs) : Built vs (ps ++ qs) := fun p hp => by
  rcases List.mem_append.1 hp with x | x
  · exact B p x
  · exact C p x
theorem Built.snoc {vs : List (Option Addr × Nat × Nat × List Value)} {ps : List Wds} (B : Built vs ps) {p : Wds} (hc : p.x.length ≤ p.cap) : Built ((p.a, p.cap, 1, strs p.x) :: vs) (ps ++ [p]) :=
  (B.more fun x hx => List.mem_cons_of_mem _ hx).app fun q hq => by
    simp at hq; subst hq
    exact ⟨.inr ⟨_, _, List.mem_cons_self⟩, hc⟩
/-- Lines are read, and the spot is laid down. -/
theorem parse_spot {G : Str → Prop} (O : Own h μ ρ) (T : Tbs G ρ) {ps : List Wds} {a : Option Addr} {cap : Nat} (X : Lns ρ ps a) (M : Mild (ps.map Wds.x)) (hG : ∀ p, p ∈ ps → ∀ w s, p.x = [w, s] → opOf w = 10 → G s) {ρ1 : Store} {ns : List Nat} {rs : List Res} (W : Pcs ρ1 ρ ns rs)
    {K : Option Addr → Nat → Nat → AW → AW → Prop}
    (H : ∀ h11 h27 μ' ρ' c co cm oa oc cells vs, Own h27 μ' ρ' → Pcs ρ1 ρ' (c :: co :: cm :: ns) (.var (AW.next h11) [.int .i64 (parseM (ps.map Wds.x)).2.1, .int .i64 (parseM (ps.map Wds.x)).2.2] :: .sl oa oc 4 cells :: .many vs :: rs) → Fra [] ρ ρ' → ρ1 c = none → ρ1 co = none → ρ1 cm = none →
      Lies (Vm vs) (parseM (ps.map Wds.x)).1 cells → K oa (parseM (ps.map Wds.x)).1.len oc h11 h27) :
    EvQ P f_action_Parse [.slice a ps.length cap] h fun v10 h11 => vTup v10 fun l12 => lC l12 fun v13 l14 => vSl v13 fun p15 m16 m17 => lC l14 fun v18 l19 => vAgg v18 fun l20 => lC l20 fun v21 l22 => vInt .i64 v21 fun n23 => lC l22 fun v24 l25 => vInt .i64 v24 fun n26 => lN l25 (lN l19
      (oB (AW.wrL (AW.addVar h11 [.int .i64 0, .int .i64 0]) (AW.next h11) 0 [.int .i64 n23, .int .i64 n26]) fun h27 => K p15 m16 m17 h11 h27)) := by
  refine parse_ok O T X M hG fun h2 μ2 ρ2 co cm oa oc cells vs O2 W2 hco hcm L2 => ?_
  simp only [oB_some, bC_true, bC_false, vInt_int, vBool_bool, vStr_string, vPtr_pointer, vSl_slice, vMap_map, vFun_func, vAgg_agg, vTup_tuple, vIfc_nil, vIfc_iface, lC_cons, lN_nil, aP_some, shO_none, shO_some, Option.isNone_none, Option.isNone_some, Bool.not_true, Bool.not_false]
  have F2 : Fra [] ρ ρ2 := W2.fra0 fun c hc => by simp at hc; rcases hc with rfl | rfl <;> assumption
  have W3 := W.adopt2 W2 hco hcm
  refine w_copyF O2 W3 rfl rfl rfl fun h3 μ3 ρ3 c O3 W4 hc F3 => ?_
  exact H _ _ _ _ c co cm oa oc cells vs O3 W4 (F2.trans F3) hc (W.not0 hco) (W.not0 hcm) L2
end Go.Proofs.YtgdkekdedgkglaaDoor
end

section
/- Rules of walks, printed by a program of ours: group ALaw. -/
namespace Go.Proofs.YtgdkekdedgkglaaDoor
open Go.Abs
set_option maxRecDepth 100000
theorem r_brickyardlaw13_ActionCut {p1 : Option Addr} {m2 : Nat} {m3 : Nat} {n4 : Int} {h : AW} {Q : Value → AW → Prop} (H : EvQ P f_brickyardlaw13_works [] h fun v5 h6 => vBool v5 fun b7 => bC (!b7) (Q (Value.bool
  false) h6) (EvQ P f_brickyardlaw13_wide [Value.slice p1 m2 m3] h6 fun v8 h9 => vBool v8 fun b10 => bC b10 (Q (Value.bool true) h9) (bC (decide (IntKind.wrap IntKind.i64 ((↑m2 : Int) + 1) = 0))
  False (bC (decide (Int.tmod n4 (IntKind.wrap IntKind.i64 ((↑m2 : Int) + 1)) < 0)) (unitAt P f_brickyardlaw13_ActionCut 8 [0, 5] [Value.slice p1 m2 m3, Value.int IntKind.i64 (IntKind.wrap IntKind.i64
  (Int.tmod n4 (IntKind.wrap IntKind.i64 ((↑m2 : Int) + 1)) + IntKind.wrap IntKind.i64 ((↑m2 : Int) + 1)))] h9 Q) (unitAt P f_brickyardlaw13_ActionCut 8 [0, 5] [Value.slice p1 m2 m3, Value.int
  IntKind.i64 (Int.tmod n4 (IntKind.wrap IntKind.i64 ((↑m2 : Int) + 1)))] h9 Q))))) : EvQ P f_brickyardlaw13_ActionCut [Value.slice p1 m2 m3, Value.int IntKind.i64 n4] h Q := fn_ok (n := 400) (ann :=
  annOf [(8, [0, 5])]) (Eq.mp (by kernel_rfl) H)
theorem r_brickyardlaw13_ActionCut_8 {p1 : Option Addr} {m2 : Nat} {m3 : Nat} {n4 : Int} {h : AW} {Q : Value → AW → Prop} (H : EvQ P f_action_Parse [Value.slice p1 m2 m3] h fun v5 h6 => vTup v5 fun l7 => lC l7
  fun v8 l9 => vSl v8 fun p10 m11 m12 => lC l9 fun v13 l14 => vAgg v13 fun l15 => lC l15 fun v16 l17 => vInt IntKind.i64 v16 fun n18 => lC l17 fun v19 l20 => vInt IntKind.i64 v19
  fun n21 => lN l20 (lN l14 (oB (AW.wrL (AW.addVar h6 [Value.int IntKind.i64 0, Value.int IntKind.i64 0]) (AW.next h6) 0 [Value.int IntKind.i64 n18, Value.int IntKind.i64 n21]) fun
  h22 => oB (natBnd n4 m3) fun m23 => bC (Nat.ble m23 m3) (oB (shO p1 0) fun p24 => EvQ P f_action_Parse [Value.slice p24 (m23 - 0) (m3 - 0)] h22 fun v25 h26 => vTup v25 fun l27 => lC l27
  fun v28 l29 => vSl v28 fun p30 m31 m32 => lC l29 fun v33 l34 => vAgg v33 fun l35 => lC l35 fun v36 l37 => vInt IntKind.i64 v36 fun n38 => lC l37 fun v39 l40 => vInt IntKind.i64
  v39 fun n41 => lN l40 (lN l34 (oB (AW.wrL (AW.addVar h26 [Value.int IntKind.i64 0, Value.int IntKind.i64 0]) (AW.next h26) 0 [Value.int IntKind.i64 n38, Value.int IntKind.i64
  n41]) fun h42 => oB (AW.rd h42 (AW.next h6) 0) fun v43 => vInt IntKind.i64 v43 fun n44 => oB (AW.rd h42 (AW.next h6) 1) fun v45 => vInt IntKind.i64 v45 fun n46 => bC (!(n44 == 0
  && (n46 == 0 && true))) (oB (AW.rd h42 (AW.next h6) 1) fun v47 => vInt IntKind.i64 v47 fun n48 => bC (decide (n48 ≥ n4)) (Q (Value.bool true) h42) (oB (AW.rd h42 (AW.next h26) 0)
  fun v49 => vInt IntKind.i64 v49 fun n50 => oB (AW.rd h42 (AW.next h26) 1) fun v51 => vInt IntKind.i64 v51 fun n52 => oB (AW.rd h42 (AW.next h6) 0) fun v53 => vInt IntKind.i64 v53
  fun n54 => oB (AW.rd h42 (AW.next h6) 1) fun v55 => vInt IntKind.i64 v55 fun n56 => bC (n50 == n54 && (n52 == n56 && true)) (Q (Value.bool ((↑m31 : Int) == 0)) h42) (Q
  (Value.bool false) h42))) (oB (AW.rd h42 (AW.next h26) 0) fun v57 => vInt IntKind.i64 v57 fun n58 => oB (AW.rd h42 (AW.next h26) 1) fun v59 => vInt IntKind.i64 v59 fun n60 => bC
  (!(n58 == 0 && (n60 == 0 && true))) (oB (AW.rd h42 (AW.next h26) 0) fun v61 => vInt IntKind.i64 v61 fun n62 => oB (AW.rd h42 (AW.next h26) 1) fun v63 => vInt IntKind.i64 v63 fun
  n64 => bC (n62 == 131 && (n64 == n4 && true)) (Q (Value.bool ((↑m31 : Int) == 0)) h42) (Q (Value.bool false) h42)) (bC (decide ((↑m31 : Int) ≤ (↑m11 : Int))) (oB (natBnd (↑m31 :
  Int) m12) fun m65 => bC (Nat.ble m65 m12) (oB (shO p10 0) fun p66 => EvQ P f_action_Same [Value.slice p30 m31 m32, Value.slice p66 (m65 - 0) (m12 - 0)] h42 fun v67 h68 => vBool v67 fun
  b69 => Q (Value.bool b69) h68) False) (Q (Value.bool false) h42)))))) False))) : unitAt P f_brickyardlaw13_ActionCut 8 [0, 5] [Value.slice p1 m2 m3, Value.int IntKind.i64 n4] h Q := unit_ok (n := 400)
  (ann := annOf [(8, [0, 5])]) (Eq.mp (by kernel_rfl) H)
theorem r_brickyardlaw13_wide {p1 : Option Addr} {m2 : Nat} {m3 : Nat} {h : AW} {Q : Value → AW → Prop} (H : unitAt P f_brickyardlaw13_wide 3 [0, 3, 4] [Value.slice p1 m2 m3, Value.int IntKind.i64 0, Value.int
  IntKind.i64 0] h Q) : EvQ P f_brickyardlaw13_wide [Value.slice p1 m2 m3] h Q := fn_ok (n := 400) (ann := annOf [(3, [0, 3, 4]), (7, [0, 3, 4, 5])]) (Eq.mp (by kernel_rfl) H)
theorem r_brickyardlaw13_wide_3 {p1 : Option Addr} {m2 : Nat} {m3 : Nat} {n4 : Int} {n5 : Int} {h : AW} {Q : Value → AW → Prop} (H : bC (decide (n5 < (↑m2 : Int))) (bC (decide (n4 < 262144))
  (unitAt P f_brickyardlaw13_wide 7 [0, 3, 4, 5] [Value.slice p1 m2 m3, Value.int IntKind.i64 (IntKind.wrap IntKind.i64 (n4 + 1)), Value.int IntKind.i64 n5, Value.int IntKind.i64 0] h Q) (Q
  (Value.bool (decide (n4 ≥ 262144))) h)) (Q (Value.bool (decide (n4 ≥ 262144))) h)) : unitAt P f_brickyardlaw13_wide 3 [0, 3, 4] [Value.slice p1 m2 m3, Value.int IntKind.i64 n4, Value.int
  IntKind.i64 n5] h Q := unit_ok (n := 400) (ann := annOf [(3, [0, 3, 4]), (7, [0, 3, 4, 5])]) (Eq.mp (by kernel_rfl) H)
theorem r_brickyardlaw13_wide_7 {p1 : Option Addr} {m2 : Nat} {m3 : Nat} {n4 : Int} {n5 : Int} {n6 : Int} {h : AW} {Q : Value → AW → Prop} (H : aP p1 fun m7 m8 => oB (natIdx n5 m2) fun m9 => oB
  (AW.rd h m7 (m8 + m9 * 1)) fun v10 => vSl v10 fun p11 m12 m13 => bC (decide (n6 < (↑m12 : Int))) (bC (decide (n4 < 262144)) (aP p1 fun m14 m15 => oB (natIdx n5 m2) fun m16 => oB
  (AW.rd h m14 (m15 + m16 * 1)) fun v17 => vSl v17 fun p18 m19 m20 => aP p18 fun m21 m22 => oB (natIdx n6 m19) fun m23 => oB (AW.rd h m21 (m22 + m23 * 1)) fun v24 => vStr v24 fun
  s25 => unitAt P f_brickyardlaw13_wide 7 [0, 3, 4, 5] [Value.slice p1 m2 m3, Value.int IntKind.i64 (IntKind.wrap IntKind.i64 (n4 + IntKind.wrap IntKind.i64 (1 + (↑(ByteArray.size s25) : Int)))),
  Value.int IntKind.i64 n5, Value.int IntKind.i64 (IntKind.wrap IntKind.i64 (n6 + 1))] h Q) (unitAt P f_brickyardlaw13_wide 3 [0, 3, 4] [Value.slice p1 m2 m3, Value.int IntKind.i64 n4, Value.int
  IntKind.i64 (IntKind.wrap IntKind.i64 (n5 + 1))] h Q)) (unitAt P f_brickyardlaw13_wide 3 [0, 3, 4] [Value.slice p1 m2 m3, Value.int IntKind.i64 n4, Value.int IntKind.i64 (IntKind.wrap IntKind.i64
  (n5 + 1))] h Q)) : unitAt P f_brickyardlaw13_wide 7 [0, 3, 4, 5] [Value.slice p1 m2 m3, Value.int IntKind.i64 n4, Value.int IntKind.i64 n5, Value.int IntKind.i64 n6] h Q := unit_ok (n := 400)
  (ann := annOf [(3, [0, 3, 4]), (7, [0, 3, 4, 5])]) (Eq.mp (by kernel_rfl) H)
end Go.Proofs.YtgdkekdedgkglaaDoor
end

section
/- What is played: how great lists and lines are. -/
namespace Go.Proofs.YtgdkekdedgkglaaDoor
open Go.Abs Go.Abs.Fo
set_option maxRecDepth 100000
attribute [local irreducible] unitAt EvQ
variable {h : AW} {μ : Paint} {ρ : Store} {Q : Value → AW → Prop}

theorem wrap_mid {n : Int} (h1 : -400000000000000 ≤ n) (h2 : n ≤ 400000000000000) : IntKind.wrap .i64 n = n := Go.Abs.wrap_small (Int.le_trans (by decide) h1) (Int.lt_of_le_of_lt h2 (by decide))
theorem wide_words (O : Own h μ ρ) {ps : List Wds} {a : Option Addr} {cap : Nat} (X : Lns ρ ps a) (L : Long (ps.map Wds.x)) {j : Nat} (hj : j < ps.length) {n0 : Int}
    (ht : ∀ n, 0 ≤ n → n ≤ 262144 + 140737488355329 → n = wA 262144 ps[j].x n0 → unitAt P f_brickyardlaw13_wide 3 [0, 3, 4] [.slice a ps.length cap, .int .i64 n, .int .i64 ((j + 1 : Nat) : Int)] h Q) :
    ∀ (d k : Nat) (n : Int), ps[j].x.length - k = d → k ≤ ps[j].x.length → 0 ≤ n → n ≤ 262144 + 140737488355329 → wA 262144 (ps[j].x.drop k) n = wA 262144 ps[j].x n0 →
      unitAt P f_brickyardlaw13_wide 7 [0, 3, 4, 5] [.slice a ps.length cap, .int .i64 n, .int .i64 (j : Int), .int .i64 (k : Int)] h Q := by
  have hl := L.2 ps[j].x (List.mem_map_of_mem (List.getElem_mem hj))
  have hlen := L.1
  simp only [List.length_map] at hlen
  intro d
  induction d with
  | zero =>
    intro k n hd hk h0 h1 he
    have : k = ps[j].x.length := by omega
    subst this
    rw [List.drop_length] at he
    refine r_brickyardlaw13_wide_7 ?_
    refine ln_at O X rfl rfl hj fun V => ?_
    rw [geI (Nat.le_refl _)]
    simp only [oB_some, bC_true, bC_false, vInt_int, vBool_bool, vStr_string, vPtr_pointer, vSl_slice, vMap_map, vFun_func, vAgg_agg, vTup_tuple, vIfc_nil, vIfc_iface, lC_cons, lN_nil, aP_some, shO_none, shO_some, Option.isNone_none, Option.isNone_some, Bool.not_true, Bool.not_false]
    rw [wrapS (by omega)]
    exact ht n h0 h1 he
  | succ d ih =>
    intro k n hd hk h0 h1 he
    have hkl : k < ps[j].x.length := by omega
    refine r_brickyardlaw13_wide_7 ?_
    refine ln_at O X rfl rfl hj fun V => ?_
    rw [ltI hkl]
    simp only [oB_some, bC_true, bC_false, vInt_int, vBool_bool, vStr_string, vPtr_pointer, vSl_slice, vMap_map, vFun_func, vAgg_agg, vTup_tuple, vIfc_nil, vIfc_iface, lC_cons, lN_nil, aP_some, shO_none, shO_some, Option.isNone_none, Option.isNone_some, Bool.not_true, Bool.not_false]
    rw [List.drop_eq_getElem_cons hkl, wA] at he
    refine bC_iff (fun e => ?_) (fun e => ?_)
    · have e : n < 262144 := of_decide_eq_true e
      rw [if_pos e] at he
      refine ln_at O X rfl rfl hj fun V => ?_
      refine wd_at O V rfl rfl hkl ?_
      have hz := hl.2 _ (List.getElem_mem hkl)
      rw [wrap_small (n := 1 + (ps[j].x[k].size : Int)) (by omega) (by omega), wrap_small (n := n + (1 + (ps[j].x[k].size : Int))) (by omega) (by omega), wrapS (by omega)]
      exact ih (k + 1) _ (by omega) (by omega) (by omega) (by omega) he
    · have e : ¬ n < 262144 := of_decide_eq_false e
      rw [if_neg e] at he
      rw [wrapS (by omega)]
      exact ht n h0 h1 he
theorem wide_loop (O : Own h μ ρ) {ps : List Wds} {a : Option Addr} {cap : Nat} (X : Lns ρ ps a) (L : Long (ps.map Wds.x)) :
    ∀ (d j : Nat) (n : Int), ps.length - j = d → j ≤ ps.length → 0 ≤ n → n ≤ 262144 + 140737488355329 → Q (.bool (decide (wL ((ps.drop j).map Wds.x) n ≥ 262144))) h →
      unitAt P f_brickyardlaw13_wide 3 [0, 3, 4] [.slice a ps.length cap, .int .i64 n, .int .i64 (j : Int)] h Q := by
  intro d
  induction d with
  | zero =>
    intro j n hd hj h0 h1 hq
    refine r_brickyardlaw13_wide_3 ?_
    rw [geI (by omega)]
    simp only [oB_some, bC_true, bC_false, vInt_int, vBool_bool, vStr_string, vPtr_pointer, vSl_slice, vMap_map, vFun_func, vAgg_agg, vTup_tuple, vIfc_nil, vIfc_iface, lC_cons, lN_nil, aP_some, shO_none, shO_some, Option.isNone_none, Option.isNone_some, Bool.not_true, Bool.not_false]
    rw [List.drop_eq_nil_of_le (by omega)] at hq
    exact hq
  | succ d ih =>
    intro j n hd hj h0 h1 hq
    have hlt : j < ps.length := by omega
    refine r_brickyardlaw13_wide_3 ?_
    rw [ltI hlt]
    simp only [oB_some, bC_true, bC_false, vInt_int, vBool_bool, vStr_string, vPtr_pointer, vSl_slice, vMap_map, vFun_func, vAgg_agg, vTup_tuple, vIfc_nil, vIfc_iface, lC_cons, lN_nil, aP_some, shO_none, shO_some, Option.isNone_none, Option.isNone_some, Bool.not_true, Bool.not_false]
    rw [List.drop_eq_getElem_cons hlt, List.map_cons, wL] at hq
    refine bC_iff (fun e => ?_) (fun e => ?_)
    · have e : n < 262144 := of_decide_eq_true e
      rw [if_pos e] at hq
      rw [wrap_small (n := n + 1) (by omega) (by omega)]
      refine wide_words O X L hlt (n0 := n + 1) (fun n2 g0 g1 g2 => ?_) _ 0 (n + 1) rfl (by omega) (by omega) (by omega) rfl
      exact ih (j + 1) n2 (by omega) (by omega) g0 g1 (by rw [g2]; exact hq)
    · have e : ¬ n < 262144 := of_decide_eq_false e
      rw [if_neg e] at hq
      exact hq
theorem wide_ok (O : Own h μ ρ) {ps : List Wds} {a : Option Addr} {cap : Nat} (X : Lns ρ ps a) (L : Long (ps.map Wds.x)) (hq : Q (.bool (wideM (ps.map Wds.x))) h) :
    EvQ P f_brickyardlaw13_wide [.slice a ps.length cap] h Q :=
  r_brickyardlaw13_wide (wide_loop O X L _ 0 0 rfl (by omega) (by omega) (by omega) hq)

/-! The same statements? -/
theorem eq_big_loop {a b : Option Addr} {x y : List Str} {c d : Nat} (O : Own h μ ρ) (X : Vw ρ [] a (strs x)) (Y : Vw ρ [] b (strs y)) (hl : x.length = y.length) (hx : x.length ≤ 140737488355328) (hq : Q (.bool (decide (x = y))) h) :
    ∀ (n k : Nat), x.length - k = n → k ≤ x.length → x.take k = y.take k → unitAt P f_slices_Equal_sl_string_string 4 [0, 1, 12, 13] [.slice a x.length c, .slice b y.length d, .int .i64 (x.length : Int), .int .i64 (k : Int)] h Q := by
  intro n
  induction n with
  | zero =>
    intro k hn hk he
    refine r_slices_Equal_sl_string_string_4 ?_
    rw [geI (by omega)]
    simp only [oB_some, bC_true, bC_false, vInt_int, vBool_bool, vStr_string, vPtr_pointer, vSl_slice, vMap_map, vFun_func, vAgg_agg, vTup_tuple, vIfc_nil, vIfc_iface, lC_cons, lN_nil, aP_some, shO_none, shO_some, Option.isNone_none, Option.isNone_some, Bool.not_true, Bool.not_false]
    have : k = x.length := by omega
    subst this
    rw [List.take_length, hl, List.take_length] at he
    rw [← decide_eq_true he]; exact hq
  | succ n ih =>
    intro k hn hk he
    refine r_slices_Equal_sl_string_string_4 ?_
    have hlt : k < x.length := by omega
    rw [ltI hlt]
    simp only [oB_some, bC_true, bC_false, vInt_int, vBool_bool, vStr_string, vPtr_pointer, vSl_slice, vMap_map, vFun_func, vAgg_agg, vTup_tuple, vIfc_nil, vIfc_iface, lC_cons, lN_nil, aP_some, shO_none, shO_some, Option.isNone_none, Option.isNone_some, Bool.not_true, Bool.not_false]
    refine wd_at O X rfl rfl hlt ?_
    refine wd_at O Y rfl rfl (by omega) ?_
    refine bC_iff (fun e => ?_) (fun e => ?_)
    · have e' : x[k] ≠ y[k] := by simpa [bEq_false] using e
      have : decide (x = y) = false := by
        rw [decide_eq_false_iff_not]
        intro e2; subst e2; exact e' rfl
      rw [← this]; exact hq
    · rw [wrapS (by omega)]
      have e' : x[k] = y[k] := by simpa [bEq_iff] using e
      exact ih (k + 1) (by omega) (by omega) (by rw [List.take_succ_eq_append_getElem hlt, List.take_succ_eq_append_getElem (by omega), he, e'])
theorem eq_big {a b : Option Addr} {x y : List Str} {c d : Nat} (O : Own h μ ρ) (X : Vw ρ [] a (strs x)) (Y : Vw ρ [] b (strs y)) (hx : x.length ≤ 140737488355328) (hq : Q (.bool (decide (x = y))) h) :
    EvQ P f_slices_Equal_sl_string_string [.slice a x.length c, .slice b y.length d] h Q := by
  refine r_slices_Equal_sl_string_string ?_
  refine bC_iff (fun e => ?_) (fun e => ?_)
  · have : x.length ≠ y.length := by simp at e; omega
    have e2 : decide (x = y) = false := by
      rw [decide_eq_false_iff_not]
      intro e2; subst e2; exact this rfl
    rw [← e2]; exact hq
  · have hl : x.length = y.length := by simp at e; omega
    exact eq_big_loop O X Y hl hx hq x.length 0 (by omega) (by omega) rfl
end Go.Proofs.YtgdkekdedgkglaaDoor
end

section
/- Two lists of statements: the same? -/
namespace Go.Proofs.YtgdkekdedgkglaaDoor
open Go.Abs Go.Abs.Fo
set_option maxRecDepth 100000
attribute [local irreducible] unitAt EvQ
variable {h : AW} {μ : Paint} {ρ : Store} {Q : Value → AW → Prop}

theorem same_fn1 (O : Own h μ ρ) {op op' n n' : Int} {args args' : List Str} {aa aa' ba ba' : Option Addr} {ac ac' bc bc' : Nat} {body body' : F} (va : Vw ρ [] aa (strs args)) (va' : Vw ρ [] aa' (strs args')) (hl : args.length ≤ 140737488355328)
    (ih : ∀ {h : AW} {μ : Paint} {ρ' : Store} {Q : Value → AW → Prop}, Own h μ ρ' → Fra [] ρ ρ' → RdQ Q ρ' (.bool (F.eqB body body')) → EvQ P f_action_Same [.slice ba body.len bc, .slice ba' body'.len bc'] h Q)
    (hq : RdQ Q ρ (.bool (decide (op = op') && decide (n = n') && decide (args = args') && F.eqB body body'))) :
    EvQ P f_action_Same_fn1 [.agg ⟨[.int .i64 op, .slice aa args.length ac, .int .i64 n, .slice ba body.len bc]⟩, .agg ⟨[.int .i64 op', .slice aa' args'.length ac', .int .i64 n', .slice ba' body'.len bc']⟩] h Q := by
  refine r_action_Same_fn1 ?_
  obtain ⟨μ1, ρ1, c1, O1, W1, hc1⟩ := w_new O p00 [.int .i64 op, .slice aa args.length ac, .int .i64 n, .slice ba body.len bc]
  obtain ⟨μ2, ρ2, c2, O2, W2, hc2⟩ := w_new O1 W1 [.int .i64 op', .slice aa' args'.length ac', .int .i64 n', .slice ba' body'.len bc']
  have F2 : Fra [] ρ ρ2 := W2.fra0 fun c hc => by
    simp at hc; rcases hc with rfl | rfl <;> assumption
  repeat (first | refine ⟨rfl, ?_⟩ | refine ⟨trivial, ?_⟩ | simp only [oB_some, bC_true, bC_false, vInt_int, vBool_bool, vStr_string, vPtr_pointer, vSl_slice, vMap_map, vFun_func, vAgg_agg, vTup_tuple, vIfc_nil, vIfc_iface, lC_cons, lN_nil, aP_some, shO_none, shO_some, Option.isNone_none, Option.isNone_some, Bool.not_true, Bool.not_false] | refine w_rd (by assumption) (by assumption) 0 (by rfl) (by rfl) ?_ | refine w_rd (by assumption) (by assumption) 1 (by rfl) (by rfl) ?_ | refine w_wrL (by assumption) (by assumption) 0 (by rfl) (Nat.le_of_ble_eq_true (by rfl)) (by rfl) fun h ρz O W => ?_ | refine w_wrL (by assumption) (by assumption) 1 (by rfl) (Nat.le_of_ble_eq_true (by rfl)) (by rfl) fun h ρz O W => ?_ | refine w_wr (by assumption) (by assumption) 0 (by rfl) (Nat.le_of_ble_eq_true (by rfl)) (by rfl) fun h ρz O W => ?_ | refine w_wr (by assumption) (by assumption) 1 (by rfl) (Nat.le_of_ble_eq_true (by rfl)) (by rfl) fun h ρz O W => ?_)
  refine bC_iff (fun e => ?_) (fun e => ?_)
  · have e := eqI e
    subst e
    repeat (first | refine ⟨rfl, ?_⟩ | refine ⟨trivial, ?_⟩ | simp only [oB_some, bC_true, bC_false, vInt_int, vBool_bool, vStr_string, vPtr_pointer, vSl_slice, vMap_map, vFun_func, vAgg_agg, vTup_tuple, vIfc_nil, vIfc_iface, lC_cons, lN_nil, aP_some, shO_none, shO_some, Option.isNone_none, Option.isNone_some, Bool.not_true, Bool.not_false] | refine w_rd (by assumption) (by assumption) 0 (by rfl) (by rfl) ?_ | refine w_rd (by assumption) (by assumption) 1 (by rfl) (by rfl) ?_ | refine w_wrL (by assumption) (by assumption) 0 (by rfl) (Nat.le_of_ble_eq_true (by rfl)) (by rfl) fun h ρz O W => ?_ | refine w_wrL (by assumption) (by assumption) 1 (by rfl) (Nat.le_of_ble_eq_true (by rfl)) (by rfl) fun h ρz O W => ?_ | refine w_wr (by assumption) (by assumption) 0 (by rfl) (Nat.le_of_ble_eq_true (by rfl)) (by rfl) fun h ρz O W => ?_ | refine w_wr (by assumption) (by assumption) 1 (by rfl) (Nat.le_of_ble_eq_true (by rfl)) (by rfl) fun h ρz O W => ?_)
    refine bC_iff (fun e => ?_) (fun e => ?_)
    · have e := eqI e
      subst e
      repeat (first | refine ⟨rfl, ?_⟩ | refine ⟨trivial, ?_⟩ | simp only [oB_some, bC_true, bC_false, vInt_int, vBool_bool, vStr_string, vPtr_pointer, vSl_slice, vMap_map, vFun_func, vAgg_agg, vTup_tuple, vIfc_nil, vIfc_iface, lC_cons, lN_nil, aP_some, shO_none, shO_some, Option.isNone_none, Option.isNone_some, Bool.not_true, Bool.not_false] | refine w_rd (by assumption) (by assumption) 0 (by rfl) (by rfl) ?_ | refine w_rd (by assumption) (by assumption) 1 (by rfl) (by rfl) ?_ | refine w_wrL (by assumption) (by assumption) 0 (by rfl) (Nat.le_of_ble_eq_true (by rfl)) (by rfl) fun h ρz O W => ?_ | refine w_wrL (by assumption) (by assumption) 1 (by rfl) (Nat.le_of_ble_eq_true (by rfl)) (by rfl) fun h ρz O W => ?_ | refine w_wr (by assumption) (by assumption) 0 (by rfl) (Nat.le_of_ble_eq_true (by rfl)) (by rfl) fun h ρz O W => ?_ | refine w_wr (by assumption) (by assumption) 1 (by rfl) (Nat.le_of_ble_eq_true (by rfl)) (by rfl) fun h ρz O W => ?_)
      refine eq_big O2 (va.keep F2) (va'.keep F2) hl ?_
      simp only [oB_some, bC_true, bC_false, vInt_int, vBool_bool, vStr_string, vPtr_pointer, vSl_slice, vMap_map, vFun_func, vAgg_agg, vTup_tuple, vIfc_nil, vIfc_iface, lC_cons, lN_nil, aP_some, shO_none, shO_some, Option.isNone_none, Option.isNone_some, Bool.not_true, Bool.not_false]
      refine bC_iff (fun e => ?_) (fun e => ?_)
      · have e := of_decide_eq_true e
        subst e
        repeat (first | refine ⟨rfl, ?_⟩ | refine ⟨trivial, ?_⟩ | simp only [oB_some, bC_true, bC_false, vInt_int, vBool_bool, vStr_string, vPtr_pointer, vSl_slice, vMap_map, vFun_func, vAgg_agg, vTup_tuple, vIfc_nil, vIfc_iface, lC_cons, lN_nil, aP_some, shO_none, shO_some, Option.isNone_none, Option.isNone_some, Bool.not_true, Bool.not_false] | refine w_rd (by assumption) (by assumption) 0 (by rfl) (by rfl) ?_ | refine w_rd (by assumption) (by assumption) 1 (by rfl) (by rfl) ?_ | refine w_wrL (by assumption) (by assumption) 0 (by rfl) (Nat.le_of_ble_eq_true (by rfl)) (by rfl) fun h ρz O W => ?_ | refine w_wrL (by assumption) (by assumption) 1 (by rfl) (Nat.le_of_ble_eq_true (by rfl)) (by rfl) fun h ρz O W => ?_ | refine w_wr (by assumption) (by assumption) 0 (by rfl) (Nat.le_of_ble_eq_true (by rfl)) (by rfl) fun h ρz O W => ?_ | refine w_wr (by assumption) (by assumption) 1 (by rfl) (Nat.le_of_ble_eq_true (by rfl)) (by rfl) fun h ρz O W => ?_)
        refine ih O2 F2 fun h3 μ3 ρ3 O3 F3 => ?_
        simp only [oB_some, bC_true, bC_false, vInt_int, vBool_bool, vStr_string, vPtr_pointer, vSl_slice, vMap_map, vFun_func, vAgg_agg, vTup_tuple, vIfc_nil, vIfc_iface, lC_cons, lN_nil, aP_some, shO_none, shO_some, Option.isNone_none, Option.isNone_some, Bool.not_true, Bool.not_false]
        have := hq _ _ _ O3 (F2.trans F3)
        simpa using this
      · have e := of_decide_eq_false e
        have := hq _ _ _ O2 F2
        simpa [e] using this
    · have e := neI e
      have := hq _ _ _ O2 F2
      simpa [e] using this
  · have e := neI e
    have := hq _ _ _ O2 F2
    simpa [e] using this
theorem same_loop : ∀ (rest : F) {h : AW} {μ : Paint} {ρ : Store} {Q : Value → AW → Prop}, Own h μ ρ → ∀ {pre pre' rest' : F} {a a' : Option Addr} {c c' : List Value} {cap cap' : Nat}, Vw ρ [] a c → Lies (Vw ρ []) (pre.app rest) c → Vw ρ [] a' c' → Lies (Vw ρ []) (pre'.app rest') c' →
    pre.len = pre'.len → rest.len = rest'.len → (pre.app rest).len ≤ 140737488355328 → Fits rest → RdQ Q ρ (.bool (F.eqB rest rest')) →
    unitAt P f_slices_EqualFunc_sl_api_Stmt_sl_api_Stmt_api_Stmt_api_Stmt 4 [1, 2, 15, 16, 17] [.slice a' (pre'.app rest').len cap', .func (.func f_action_Same_fn1) ⟨[]⟩ ⟨[]⟩, .slice a (pre.app rest).len cap, .int .i64 ((pre.app rest).len : Int), .int .i64 (pre.len : Int)] h Q
  | .nil, h, μ, ρ, Q, O, pre, pre', .nil, a, a', c, c', cap, cap', X, L, X', L', hp, hr, hl, hf, hq => by
    refine r_slices_EqualFunc_sl_api_Stmt_sl_api_Stmt_api_Stmt_api_Stmt_4 ?_
    rw [F.app_nil, geI (Nat.le_refl _)]
    simp only [oB_some, bC_true, bC_false, vInt_int, vBool_bool, vStr_string, vPtr_pointer, vSl_slice, vMap_map, vFun_func, vAgg_agg, vTup_tuple, vIfc_nil, vIfc_iface, lC_cons, lN_nil, aP_some, shO_none, shO_some, Option.isNone_none, Option.isNone_some, Bool.not_true, Bool.not_false]
    exact hq.now O
  | .nil, h, μ, ρ, Q, O, pre, pre', .cons _ _ _ _ _, a, a', c, c', cap, cap', X, L, X', L', hp, hr, hl, hf, hq => by
    simp [F.len] at hr
  | .cons _ _ _ _ _, h, μ, ρ, Q, O, pre, pre', .nil, a, a', c, c', cap, cap', X, L, X', L', hp, hr, hl, hf, hq => by
    simp [F.len] at hr
  | .cons op args kk body rest, h, μ, ρ, Q, O, pre, pre', .cons op' args' kk' body' rest', a, a', c, c', cap, cap', X, L, X', L', hp, hr, hl, hf, hq => by
    obtain ⟨f1, f2, f3, f4, f5⟩ := hf
    simp only [F.len, Nat.add_right_cancel_iff] at hr
    have hlt : pre.len < (pre.app (.cons op args kk body rest)).len := app_lt
    refine r_slices_EqualFunc_sl_api_Stmt_sl_api_Stmt_api_Stmt_api_Stmt_4 ?_
    rw [ltI hlt]
    simp only [oB_some, bC_true, bC_false, vInt_int, vBool_bool, vStr_string, vPtr_pointer, vSl_slice, vMap_map, vFun_func, vAgg_agg, vTup_tuple, vIfc_nil, vIfc_iface, lC_cons, lN_nil, aP_some, shO_none, shO_some, Option.isNone_none, Option.isNone_some, Bool.not_true, Bool.not_false]
    refine st_copy O X L rfl rfl fun h1 μ1 ρ1 c1 aa ac ba bc O1 W1 hc1 F1 va la => ?_
    refine st_copy O1 (X'.keep F1) (L'.mono fun _ _ x => x.keep F1) (by rw [hp]) rfl fun h2 μ2 ρ2 c2 aa' ac' ba' bc' O2 W2 hc2 F2 va' la' => ?_
    have W := W1.adopt W2 hc2
    repeat (first | refine ⟨rfl, ?_⟩ | refine ⟨trivial, ?_⟩ | simp only [oB_some, bC_true, bC_false, vInt_int, vBool_bool, vStr_string, vPtr_pointer, vSl_slice, vMap_map, vFun_func, vAgg_agg, vTup_tuple, vIfc_nil, vIfc_iface, lC_cons, lN_nil, aP_some, shO_none, shO_some, Option.isNone_none, Option.isNone_some, Bool.not_true, Bool.not_false] | refine w_rd (by assumption) (by assumption) 0 (by rfl) (by rfl) ?_ | refine w_rd (by assumption) (by assumption) 1 (by rfl) (by rfl) ?_ | refine w_wrL (by assumption) (by assumption) 0 (by rfl) (Nat.le_of_ble_eq_true (by rfl)) (by rfl) fun h ρz O W => ?_ | refine w_wrL (by assumption) (by assumption) 1 (by rfl) (Nat.le_of_ble_eq_true (by rfl)) (by rfl) fun h ρz O W => ?_ | refine w_wr (by assumption) (by assumption) 0 (by rfl) (Nat.le_of_ble_eq_true (by rfl)) (by rfl) fun h ρz O W => ?_ | refine w_wr (by assumption) (by assumption) 1 (by rfl) (Nat.le_of_ble_eq_true (by rfl)) (by rfl) fun h ρz O W => ?_)
    have F12 := F1.trans F2
    refine same_fn1 O2 (va.keep F2) va' f1 (body := body) (body' := body') (fun {h3} {μ3} {ρ3} {Q3} O3 F3 hq3 => ?_) fun h3 μ3 ρ3 O3 F3 => ?_
    · refine r_action_Same (r_slices_EqualFunc_sl_api_Stmt_sl_api_Stmt_api_Stmt_api_Stmt ?_)
      refine bC_iff (fun e => ?_) (fun e => ?_)
      · have e : body.len ≠ body'.len := by simp at e; omega
        rw [F.eqB_len e] at hq3
        exact hq3.now O3
      · have e : body.len = body'.len := by simp at e; omega
        obtain ⟨d, v1, l1⟩ := (la.keep F2).keep F3
        obtain ⟨d', v1', l1'⟩ := la'.keep F3
        refine same_loop body (pre := .nil) (pre' := .nil) O3 v1 l1 v1' l1' rfl e f3 f4 fun h4 μ4 ρ4 O4 F4 => ?_
        simp only [oB_some, bC_true, bC_false, vInt_int, vBool_bool, vStr_string, vPtr_pointer, vSl_slice, vMap_map, vFun_func, vAgg_agg, vTup_tuple, vIfc_nil, vIfc_iface, lC_cons, lN_nil, aP_some, shO_none, shO_some, Option.isNone_none, Option.isNone_some, Bool.not_true, Bool.not_false]
        exact hq3 _ _ _ O4 F4
    · simp only [oB_some, bC_true, bC_false, vInt_int, vBool_bool, vStr_string, vPtr_pointer, vSl_slice, vMap_map, vFun_func, vAgg_agg, vTup_tuple, vIfc_nil, vIfc_iface, lC_cons, lN_nil, aP_some, shO_none, shO_some, Option.isNone_none, Option.isNone_some, Bool.not_true, Bool.not_false]
      refine bC_iff (fun e => ?_) (fun e => ?_)
      · have := hq _ _ _ O3 (F12.trans F3)
        have e : (decide (op = op') && decide (kk = kk') && decide (args = args') && F.eqB body body') = false := nb e
        simp only [F.eqB, e, Bool.false_and] at this
        exact this
      · have e : (decide (op = op') && decide (kk = kk') && decide (args = args') && F.eqB body body') = true := nb' e
        rw [wrapS (by omega)]
        have F13 := F12.trans F3
        have e3 : ∀ g : F, (pre.snoc op args kk body).app g = pre.app (.cons op args kk body g) := fun g => F.snoc_app pre op args kk body g
        have e4 : (pre.snoc op args kk body).len = pre.len + 1 := F.snoc_len pre op args kk body
        have e5 : ∀ g : F, (pre'.snoc op' args' kk' body').app g = pre'.app (.cons op' args' kk' body' g) := fun g => F.snoc_app pre' op' args' kk' body' g
        have e6 : (pre'.snoc op' args' kk' body').len = pre'.len + 1 := F.snoc_len pre' op' args' kk' body'
        have := same_loop rest (Q := Q) O3 (pre := pre.snoc op args kk body) (pre' := pre'.snoc op' args' kk' body') (rest' := rest') (cap := cap) (cap' := cap') (X.keep F13) (by rw [e3]; exact L.mono fun _ _ x => x.keep F13) (X'.keep F13) (by rw [e5]; exact L'.mono fun _ _ x => x.keep F13)
          (by rw [e4, e6, hp]) hr (by rw [e3]; exact hl) f5 (by
            have := hq.keep F13
            simp only [F.eqB, e, Bool.true_and] at this
            exact this)
        rw [e3, e4, e5] at this
        exact this
theorem same_ok (O : Own h μ ρ) {f g : F} {a b : Option Addr} {ca cb : Nat} (X : Ly ρ f a) (Y : Ly ρ g b) (hf : Fits f) (hl : f.len ≤ 140737488355328) (hq : RdQ Q ρ (.bool (F.eqB f g))) : EvQ P f_action_Same [.slice a f.len ca, .slice b g.len cb] h Q := by
  refine r_action_Same (r_slices_EqualFunc_sl_api_Stmt_sl_api_Stmt_api_Stmt_api_Stmt ?_)
  refine bC_iff (fun e => ?_) (fun e => ?_)
  · have e : f.len ≠ g.len := by simp at e; omega
    rw [F.eqB_len e] at hq
    exact hq.now O
  · have e : f.len = g.len := by simp at e; omega
    obtain ⟨d, v1, l1⟩ := X
    obtain ⟨d', v1', l1'⟩ := Y
    refine same_loop f (pre := .nil) (pre' := .nil) O v1 l1 v1' l1' rfl e hl hf fun h4 μ4 ρ4 O4 F4 => ?_
    simp only [oB_some, bC_true, bC_false, vInt_int, vBool_bool, vStr_string, vPtr_pointer, vSl_slice, vMap_map, vFun_func, vAgg_agg, vTup_tuple, vIfc_nil, vIfc_iface, lC_cons, lN_nil, aP_some, shO_none, shO_some, Option.isNone_none, Option.isNone_some, Bool.not_true, Bool.not_false]
    exact hq _ _ _ O4 F4
end Go.Proofs.YtgdkekdedgkglaaDoor
end

section
/- The beginning of lines: the law's walk. -/
namespace Go.Proofs.YtgdkekdedgkglaaDoor
open Go.Abs Go.Abs.Fo
set_option maxRecDepth 100000
attribute [local irreducible] unitAt EvQ
variable {h : AW} {μ : Paint} {ρ : Store} {Q : Value → AW → Prop}
theorem mild_G {ps : List Wds} (M : Mild (ps.map Wds.x)) : ∀ p, p ∈ ps → ∀ w s, p.x = [w, s] → opOf w = 10 → s.size ≤ 70368744177664 := fun p hp w s e _ => by
  have := M.str p.x (List.mem_map_of_mem hp) s (by rw [e]; simp)
  omega
theorem lns_beg {ps : List Wds} {a : Option Addr} (X : Lns ρ ps a) (k : Nat) : ∃ a', shO a 0 = some a' ∧ Lns ρ (ps.take k) a' := by
  obtain ⟨a', e, V⟩ := X.top.drop 0
  refine ⟨a', e, ?_, fun p hp => X.each p (List.mem_of_mem_take hp), fun p hp => X.caps p (List.mem_of_mem_take hp)⟩
  rw [List.drop_zero] at V
  have := V.take k
  rw [← List.map_take] at this
  exact this
theorem mild_take {L : List Line} (M : Mild L) (k : Nat) : Mild (L.take k) :=
  ⟨by have := M.len; rw [List.length_take]; omega, fun l hl => M.wds l (List.mem_of_mem_take hl), fun l hl => M.str l (List.mem_of_mem_take hl)⟩
/-- The first statements of a list lie where it lies. -/
theorem ly_beg {f g : F} {a : Option Addr} (X : Ly ρ (f.app g) a) : ∃ a', shO a 0 = some a' ∧ Ly ρ f a' := by
  obtain ⟨c, V, L⟩ := X
  obtain ⟨c1, c2, rfl, L1, _⟩ := lies_split L
  obtain ⟨a', e, V2⟩ := V.drop 0
  refine ⟨a', e, c1, ?_, L1⟩
  rw [List.drop_zero] at V2
  have := V2.take c1.length
  rw [List.take_left] at this
  exact this
theorem cut_8 (O : Own h μ ρ) (T : Tbs (fun s => s.size ≤ 70368744177664) ρ) {ps qs : List Wds} {a : Option Addr} {cap : Nat} (X : Lns ρ ps a) (M : Mild (ps.map Wds.x)) (hk : qs.length ≤ ps.length) (hqs : ps.take qs.length = qs) (hc : ps.length ≤ cap) (hq : ∀ h', Q (.bool true) h') :
    unitAt P f_brickyardlaw13_ActionCut 8 [0, 5] [.slice a ps.length cap, .int .i64 (qs.length : Int)] h Q := by
  refine r_brickyardlaw13_ActionCut_8 ?_
  refine parse_spot O T X M (mild_G M) p00 fun h1 h2 μ2 ρ2 s1 co1 cm1 oa1 oc1 cells1 vs1 O2 W2 F2 hs1 hco1 hcm1 L1 => ?_
  rw [natBnd_eq (show qs.length ≤ cap by omega)]
  simp only [oB_some, bC_true, bC_false, vInt_int, vBool_bool, vStr_string, vPtr_pointer, vSl_slice, vMap_map, vFun_func, vAgg_agg, vTup_tuple, vIfc_nil, vIfc_iface, lC_cons, lN_nil, aP_some, shO_none, shO_some, Option.isNone_none, Option.isNone_some, Bool.not_true, Bool.not_false, Nat.ble_eq_true_of_le (show qs.length ≤ cap by omega)]
  obtain ⟨a', e, Y⟩ := lns_beg X qs.length
  rw [hqs] at Y
  have hxs : (ps.map Wds.x).take qs.length = qs.map Wds.x := by rw [← List.map_take, hqs]
  have MQ : Mild (qs.map Wds.x) := by rw [← hxs]; exact mild_take M _
  refine oB_bind e ?_
  simp only [Nat.sub_zero]
  refine parse_spot O2 (T.keep F2) (Y.keep F2) MQ (mild_G MQ) W2 fun h3 h4 μ4 ρ4 s2 co2 cm2 oa2 oc2 cells2 vs2 O4 W4 F4 hs2 hco2 hcm2 L2 => ?_
  have C := cut_fact (ps.map Wds.x) qs.length (by rw [List.length_map]; exact hk)
  rw [hxs] at C
  obtain ⟨fit, lenf⟩ := fits_parse MQ
  obtain ⟨C1, C2⟩ := C
  have hml := MQ.len
  generalize parseM (ps.map Wds.x) = p at *
  generalize parseM (qs.map Wds.x) = q at *
  obtain ⟨f, ep, tp⟩ := p
  obtain ⟨g, eq, tq⟩ := q
  simp only at *
  repeat (first | refine ⟨rfl, ?_⟩ | refine ⟨trivial, ?_⟩ | simp only [oB_some, bC_true, bC_false, vInt_int, vBool_bool, vStr_string, vPtr_pointer, vSl_slice, vMap_map, vFun_func, vAgg_agg, vTup_tuple, vIfc_nil, vIfc_iface, lC_cons, lN_nil, aP_some, shO_none, shO_some, Option.isNone_none, Option.isNone_some, Bool.not_true, Bool.not_false] | refine w_rd (by assumption) (by assumption) 0 (by rfl) (by rfl) ?_ | refine w_rd (by assumption) (by assumption) 1 (by rfl) (by rfl) ?_ | refine w_rd (by assumption) (by assumption) 2 (by rfl) (by rfl) ?_ | refine w_rd (by assumption) (by assumption) 3 (by rfl) (by rfl) ?_ | refine w_rd (by assumption) (by assumption) 4 (by rfl) (by rfl) ?_ | refine w_rd (by assumption) (by assumption) 5 (by rfl) (by rfl) ?_ | refine w_wrL (by assumption) (by assumption) 0 (by rfl) (Nat.le_of_ble_eq_true (by rfl)) (by rfl) fun h ρz O W => ?_ | refine w_wrL (by assumption) (by assumption) 1 (by rfl) (Nat.le_of_ble_eq_true (by rfl)) (by rfl) fun h ρz O W => ?_ | refine w_wrL (by assumption) (by assumption) 2 (by rfl) (Nat.le_of_ble_eq_true (by rfl)) (by rfl) fun h ρz O W => ?_ | refine w_wrL (by assumption) (by assumption) 3 (by rfl) (Nat.le_of_ble_eq_true (by rfl)) (by rfl) fun h ρz O W => ?_ | refine w_wrL (by assumption) (by assumption) 4 (by rfl) (Nat.le_of_ble_eq_true (by rfl)) (by rfl) fun h ρz O W => ?_ | refine w_wrL (by assumption) (by assumption) 5 (by rfl) (Nat.le_of_ble_eq_true (by rfl)) (by rfl) fun h ρz O W => ?_ | refine w_wr (by assumption) (by assumption) 0 (by rfl) (Nat.le_of_ble_eq_true (by rfl)) (by rfl) fun h ρz O W => ?_ | refine w_wr (by assumption) (by assumption) 1 (by rfl) (Nat.le_of_ble_eq_true (by rfl)) (by rfl) fun h ρz O W => ?_ | refine w_wr (by assumption) (by assumption) 2 (by rfl) (Nat.le_of_ble_eq_true (by rfl)) (by rfl) fun h ρz O W => ?_ | refine w_wr (by assumption) (by assumption) 3 (by rfl) (Nat.le_of_ble_eq_true (by rfl)) (by rfl) fun h ρz O W => ?_ | refine w_wr (by assumption) (by assumption) 4 (by rfl) (Nat.le_of_ble_eq_true (by rfl)) (by rfl) fun h ρz O W => ?_ | refine w_wr (by assumption) (by assumption) 5 (by rfl) (Nat.le_of_ble_eq_true (by rfl)) (by rfl) fun h ρz O W => ?_)
  by_cases h0 : ep = 0 ∧ tp = 0
  · obtain ⟨rfl, rfl⟩ := h0
    rw [show (!((0 : Int) == 0 && ((0 : Int) == 0 && true))) = false from rfl]
    simp only [oB_some, bC_true, bC_false, vInt_int, vBool_bool, vStr_string, vPtr_pointer, vSl_slice, vMap_map, vFun_func, vAgg_agg, vTup_tuple, vIfc_nil, vIfc_iface, lC_cons, lN_nil, aP_some, shO_none, shO_some, Option.isNone_none, Option.isNone_some, Bool.not_true, Bool.not_false]
    repeat (first | refine ⟨rfl, ?_⟩ | refine ⟨trivial, ?_⟩ | simp only [oB_some, bC_true, bC_false, vInt_int, vBool_bool, vStr_string, vPtr_pointer, vSl_slice, vMap_map, vFun_func, vAgg_agg, vTup_tuple, vIfc_nil, vIfc_iface, lC_cons, lN_nil, aP_some, shO_none, shO_some, Option.isNone_none, Option.isNone_some, Bool.not_true, Bool.not_false] | refine w_rd (by assumption) (by assumption) 0 (by rfl) (by rfl) ?_ | refine w_rd (by assumption) (by assumption) 1 (by rfl) (by rfl) ?_ | refine w_rd (by assumption) (by assumption) 2 (by rfl) (by rfl) ?_ | refine w_rd (by assumption) (by assumption) 3 (by rfl) (by rfl) ?_ | refine w_rd (by assumption) (by assumption) 4 (by rfl) (by rfl) ?_ | refine w_rd (by assumption) (by assumption) 5 (by rfl) (by rfl) ?_ | refine w_wrL (by assumption) (by assumption) 0 (by rfl) (Nat.le_of_ble_eq_true (by rfl)) (by rfl) fun h ρz O W => ?_ | refine w_wrL (by assumption) (by assumption) 1 (by rfl) (Nat.le_of_ble_eq_true (by rfl)) (by rfl) fun h ρz O W => ?_ | refine w_wrL (by assumption) (by assumption) 2 (by rfl) (Nat.le_of_ble_eq_true (by rfl)) (by rfl) fun h ρz O W => ?_ | refine w_wrL (by assumption) (by assumption) 3 (by rfl) (Nat.le_of_ble_eq_true (by rfl)) (by rfl) fun h ρz O W => ?_ | refine w_wrL (by assumption) (by assumption) 4 (by rfl) (Nat.le_of_ble_eq_true (by rfl)) (by rfl) fun h ρz O W => ?_ | refine w_wrL (by assumption) (by assumption) 5 (by rfl) (Nat.le_of_ble_eq_true (by rfl)) (by rfl) fun h ρz O W => ?_ | refine w_wr (by assumption) (by assumption) 0 (by rfl) (Nat.le_of_ble_eq_true (by rfl)) (by rfl) fun h ρz O W => ?_ | refine w_wr (by assumption) (by assumption) 1 (by rfl) (Nat.le_of_ble_eq_true (by rfl)) (by rfl) fun h ρz O W => ?_ | refine w_wr (by assumption) (by assumption) 2 (by rfl) (Nat.le_of_ble_eq_true (by rfl)) (by rfl) fun h ρz O W => ?_ | refine w_wr (by assumption) (by assumption) 3 (by rfl) (Nat.le_of_ble_eq_true (by rfl)) (by rfl) fun h ρz O W => ?_ | refine w_wr (by assumption) (by assumption) 4 (by rfl) (Nat.le_of_ble_eq_true (by rfl)) (by rfl) fun h ρz O W => ?_ | refine w_wr (by assumption) (by assumption) 5 (by rfl) (Nat.le_of_ble_eq_true (by rfl)) (by rfl) fun h ρz O W => ?_)
    rcases C2 rfl with ⟨e1, e2⟩ | ⟨e1, r, e2⟩
    · cases e1
      subst e2
      rw [show (!((131 : Int) == 0 && (((qs.length : Nat) : Int) == 0 && true))) = true from rfl]
      simp only [oB_some, bC_true, bC_false, vInt_int, vBool_bool, vStr_string, vPtr_pointer, vSl_slice, vMap_map, vFun_func, vAgg_agg, vTup_tuple, vIfc_nil, vIfc_iface, lC_cons, lN_nil, aP_some, shO_none, shO_some, Option.isNone_none, Option.isNone_some, Bool.not_true, Bool.not_false]
      repeat (first | refine ⟨rfl, ?_⟩ | refine ⟨trivial, ?_⟩ | simp only [oB_some, bC_true, bC_false, vInt_int, vBool_bool, vStr_string, vPtr_pointer, vSl_slice, vMap_map, vFun_func, vAgg_agg, vTup_tuple, vIfc_nil, vIfc_iface, lC_cons, lN_nil, aP_some, shO_none, shO_some, Option.isNone_none, Option.isNone_some, Bool.not_true, Bool.not_false] | refine w_rd (by assumption) (by assumption) 0 (by rfl) (by rfl) ?_ | refine w_rd (by assumption) (by assumption) 1 (by rfl) (by rfl) ?_ | refine w_rd (by assumption) (by assumption) 2 (by rfl) (by rfl) ?_ | refine w_rd (by assumption) (by assumption) 3 (by rfl) (by rfl) ?_ | refine w_rd (by assumption) (by assumption) 4 (by rfl) (by rfl) ?_ | refine w_rd (by assumption) (by assumption) 5 (by rfl) (by rfl) ?_ | refine w_wrL (by assumption) (by assumption) 0 (by rfl) (Nat.le_of_ble_eq_true (by rfl)) (by rfl) fun h ρz O W => ?_ | refine w_wrL (by assumption) (by assumption) 1 (by rfl) (Nat.le_of_ble_eq_true (by rfl)) (by rfl) fun h ρz O W => ?_ | refine w_wrL (by assumption) (by assumption) 2 (by rfl) (Nat.le_of_ble_eq_true (by rfl)) (by rfl) fun h ρz O W => ?_ | refine w_wrL (by assumption) (by assumption) 3 (by rfl) (Nat.le_of_ble_eq_true (by rfl)) (by rfl) fun h ρz O W => ?_ | refine w_wrL (by assumption) (by assumption) 4 (by rfl) (Nat.le_of_ble_eq_true (by rfl)) (by rfl) fun h ρz O W => ?_ | refine w_wrL (by assumption) (by assumption) 5 (by rfl) (Nat.le_of_ble_eq_true (by rfl)) (by rfl) fun h ρz O W => ?_ | refine w_wr (by assumption) (by assumption) 0 (by rfl) (Nat.le_of_ble_eq_true (by rfl)) (by rfl) fun h ρz O W => ?_ | refine w_wr (by assumption) (by assumption) 1 (by rfl) (Nat.le_of_ble_eq_true (by rfl)) (by rfl) fun h ρz O W => ?_ | refine w_wr (by assumption) (by assumption) 2 (by rfl) (Nat.le_of_ble_eq_true (by rfl)) (by rfl) fun h ρz O W => ?_ | refine w_wr (by assumption) (by assumption) 3 (by rfl) (Nat.le_of_ble_eq_true (by rfl)) (by rfl) fun h ρz O W => ?_ | refine w_wr (by assumption) (by assumption) 4 (by rfl) (Nat.le_of_ble_eq_true (by rfl)) (by rfl) fun h ρz O W => ?_ | refine w_wr (by assumption) (by assumption) 5 (by rfl) (Nat.le_of_ble_eq_true (by rfl)) (by rfl) fun h ρz O W => ?_)
      rw [show ((131 : Int) == 131 && (((qs.length : Nat) : Int) == ((qs.length : Nat) : Int) && true)) = true from by simp]
      simp only [oB_some, bC_true, bC_false, vInt_int, vBool_bool, vStr_string, vPtr_pointer, vSl_slice, vMap_map, vFun_func, vAgg_agg, vTup_tuple, vIfc_nil, vIfc_iface, lC_cons, lN_nil, aP_some, shO_none, shO_some, Option.isNone_none, Option.isNone_some, Bool.not_true, Bool.not_false]
      exact hq _
    · cases e1
      subst e2
      rw [show (!((0 : Int) == 0 && ((0 : Int) == 0 && true))) = false from rfl]
      simp only [oB_some, bC_true, bC_false, vInt_int, vBool_bool, vStr_string, vPtr_pointer, vSl_slice, vMap_map, vFun_func, vAgg_agg, vTup_tuple, vIfc_nil, vIfc_iface, lC_cons, lN_nil, aP_some, shO_none, shO_some, Option.isNone_none, Option.isNone_some, Bool.not_true, Bool.not_false]
      have hcap := w_cap O4 W4 4 rfl
      have hcl := L1.len
      have hfg := F.app_len g r
      rw [show decide ((g.len : Int) ≤ ((g.app r).len : Int)) = true from decide_eq_true (by omega)]
      try simp only [oB_some, bC_true, bC_false, vInt_int, vBool_bool, vStr_string, vPtr_pointer, vSl_slice, vMap_map, vFun_func, vAgg_agg, vTup_tuple, vIfc_nil, vIfc_iface, lC_cons, lN_nil, aP_some, shO_none, shO_some, Option.isNone_none, Option.isNone_some, Bool.not_true, Bool.not_false]
      rw [natBnd_eq (show g.len ≤ oc1 by omega)]
      simp only [oB_some, bC_true, bC_false, vInt_int, vBool_bool, vStr_string, vPtr_pointer, vSl_slice, vMap_map, vFun_func, vAgg_agg, vTup_tuple, vIfc_nil, vIfc_iface, lC_cons, lN_nil, aP_some, shO_none, shO_some, Option.isNone_none, Option.isNone_some, Bool.not_true, Bool.not_false, Nat.ble_eq_true_of_le (show g.len ≤ oc1 by omega)]
      obtain ⟨b', e3, Z⟩ := ly_beg (Ly.of O4 (W4.at_ 4 _ _ rfl rfl) (W4.at_ 5 _ _ rfl rfl) L1)
      refine oB_bind e3 ?_
      refine same_ok O4 (Ly.of O4 (W4.at_ 1 _ _ rfl rfl) (W4.at_ 2 _ _ rfl rfl) L2) Z fit (by simp only [List.length_map] at lenf hml; omega) fun h5 μ5 ρ5 O5 F5 => ?_
      simp only [oB_some, bC_true, bC_false, vInt_int, vBool_bool, vStr_string, vPtr_pointer, vSl_slice, vMap_map, vFun_func, vAgg_agg, vTup_tuple, vIfc_nil, vIfc_iface, lC_cons, lN_nil, aP_some, shO_none, shO_some, Option.isNone_none, Option.isNone_some, Bool.not_true, Bool.not_false]
      rw [F.eqB_self]
      exact hq _
  · have hne : (ep, tp) ≠ ((0 : Int), (0 : Int)) := fun e => by cases e; exact h0 ⟨rfl, rfl⟩
    rw [show (!(ep == 0 && (tp == 0 && true))) = true from by
      rw [Bool.not_eq_true', Bool.and_true, Bool.and_eq_false_iff, beq_eq_false_iff_ne, beq_eq_false_iff_ne]
      by_cases x : ep = 0
      · exact .inr fun y => h0 ⟨x, y⟩
      · exact .inl x]
    simp only [oB_some, bC_true, bC_false, vInt_int, vBool_bool, vStr_string, vPtr_pointer, vSl_slice, vMap_map, vFun_func, vAgg_agg, vTup_tuple, vIfc_nil, vIfc_iface, lC_cons, lN_nil, aP_some, shO_none, shO_some, Option.isNone_none, Option.isNone_some, Bool.not_true, Bool.not_false]
    repeat (first | refine ⟨rfl, ?_⟩ | refine ⟨trivial, ?_⟩ | simp only [oB_some, bC_true, bC_false, vInt_int, vBool_bool, vStr_string, vPtr_pointer, vSl_slice, vMap_map, vFun_func, vAgg_agg, vTup_tuple, vIfc_nil, vIfc_iface, lC_cons, lN_nil, aP_some, shO_none, shO_some, Option.isNone_none, Option.isNone_some, Bool.not_true, Bool.not_false] | refine w_rd (by assumption) (by assumption) 0 (by rfl) (by rfl) ?_ | refine w_rd (by assumption) (by assumption) 1 (by rfl) (by rfl) ?_ | refine w_rd (by assumption) (by assumption) 2 (by rfl) (by rfl) ?_ | refine w_rd (by assumption) (by assumption) 3 (by rfl) (by rfl) ?_ | refine w_rd (by assumption) (by assumption) 4 (by rfl) (by rfl) ?_ | refine w_rd (by assumption) (by assumption) 5 (by rfl) (by rfl) ?_ | refine w_wrL (by assumption) (by assumption) 0 (by rfl) (Nat.le_of_ble_eq_true (by rfl)) (by rfl) fun h ρz O W => ?_ | refine w_wrL (by assumption) (by assumption) 1 (by rfl) (Nat.le_of_ble_eq_true (by rfl)) (by rfl) fun h ρz O W => ?_ | refine w_wrL (by assumption) (by assumption) 2 (by rfl) (Nat.le_of_ble_eq_true (by rfl)) (by rfl) fun h ρz O W => ?_ | refine w_wrL (by assumption) (by assumption) 3 (by rfl) (Nat.le_of_ble_eq_true (by rfl)) (by rfl) fun h ρz O W => ?_ | refine w_wrL (by assumption) (by assumption) 4 (by rfl) (Nat.le_of_ble_eq_true (by rfl)) (by rfl) fun h ρz O W => ?_ | refine w_wrL (by assumption) (by assumption) 5 (by rfl) (Nat.le_of_ble_eq_true (by rfl)) (by rfl) fun h ρz O W => ?_ | refine w_wr (by assumption) (by assumption) 0 (by rfl) (Nat.le_of_ble_eq_true (by rfl)) (by rfl) fun h ρz O W => ?_ | refine w_wr (by assumption) (by assumption) 1 (by rfl) (Nat.le_of_ble_eq_true (by rfl)) (by rfl) fun h ρz O W => ?_ | refine w_wr (by assumption) (by assumption) 2 (by rfl) (Nat.le_of_ble_eq_true (by rfl)) (by rfl) fun h ρz O W => ?_ | refine w_wr (by assumption) (by assumption) 3 (by rfl) (Nat.le_of_ble_eq_true (by rfl)) (by rfl) fun h ρz O W => ?_ | refine w_wr (by assumption) (by assumption) 4 (by rfl) (Nat.le_of_ble_eq_true (by rfl)) (by rfl) fun h ρz O W => ?_ | refine w_wr (by assumption) (by assumption) 5 (by rfl) (Nat.le_of_ble_eq_true (by rfl)) (by rfl) fun h ρz O W => ?_)
    refine bC_iff (fun _ => hq _) (fun hlt => ?_)
    rcases C1 hne with x | ⟨e1, e2⟩
    · have := of_decide_eq_false hlt; omega
    · cases e1
      subst e2
      repeat (first | refine ⟨rfl, ?_⟩ | refine ⟨trivial, ?_⟩ | simp only [oB_some, bC_true, bC_false, vInt_int, vBool_bool, vStr_string, vPtr_pointer, vSl_slice, vMap_map, vFun_func, vAgg_agg, vTup_tuple, vIfc_nil, vIfc_iface, lC_cons, lN_nil, aP_some, shO_none, shO_some, Option.isNone_none, Option.isNone_some, Bool.not_true, Bool.not_false] | refine w_rd (by assumption) (by assumption) 0 (by rfl) (by rfl) ?_ | refine w_rd (by assumption) (by assumption) 1 (by rfl) (by rfl) ?_ | refine w_rd (by assumption) (by assumption) 2 (by rfl) (by rfl) ?_ | refine w_rd (by assumption) (by assumption) 3 (by rfl) (by rfl) ?_ | refine w_rd (by assumption) (by assumption) 4 (by rfl) (by rfl) ?_ | refine w_rd (by assumption) (by assumption) 5 (by rfl) (by rfl) ?_ | refine w_wrL (by assumption) (by assumption) 0 (by rfl) (Nat.le_of_ble_eq_true (by rfl)) (by rfl) fun h ρz O W => ?_ | refine w_wrL (by assumption) (by assumption) 1 (by rfl) (Nat.le_of_ble_eq_true (by rfl)) (by rfl) fun h ρz O W => ?_ | refine w_wrL (by assumption) (by assumption) 2 (by rfl) (Nat.le_of_ble_eq_true (by rfl)) (by rfl) fun h ρz O W => ?_ | refine w_wrL (by assumption) (by assumption) 3 (by rfl) (Nat.le_of_ble_eq_true (by rfl)) (by rfl) fun h ρz O W => ?_ | refine w_wrL (by assumption) (by assumption) 4 (by rfl) (Nat.le_of_ble_eq_true (by rfl)) (by rfl) fun h ρz O W => ?_ | refine w_wrL (by assumption) (by assumption) 5 (by rfl) (Nat.le_of_ble_eq_true (by rfl)) (by rfl) fun h ρz O W => ?_ | refine w_wr (by assumption) (by assumption) 0 (by rfl) (Nat.le_of_ble_eq_true (by rfl)) (by rfl) fun h ρz O W => ?_ | refine w_wr (by assumption) (by assumption) 1 (by rfl) (Nat.le_of_ble_eq_true (by rfl)) (by rfl) fun h ρz O W => ?_ | refine w_wr (by assumption) (by assumption) 2 (by rfl) (Nat.le_of_ble_eq_true (by rfl)) (by rfl) fun h ρz O W => ?_ | refine w_wr (by assumption) (by assumption) 3 (by rfl) (Nat.le_of_ble_eq_true (by rfl)) (by rfl) fun h ρz O W => ?_ | refine w_wr (by assumption) (by assumption) 4 (by rfl) (Nat.le_of_ble_eq_true (by rfl)) (by rfl) fun h ρz O W => ?_ | refine w_wr (by assumption) (by assumption) 5 (by rfl) (Nat.le_of_ble_eq_true (by rfl)) (by rfl) fun h ρz O W => ?_)
      rw [show (ep == ep && (tp == tp && true)) = true from by simp]
      simp only [oB_some, bC_true, bC_false, vInt_int, vBool_bool, vStr_string, vPtr_pointer, vSl_slice, vMap_map, vFun_func, vAgg_agg, vTup_tuple, vIfc_nil, vIfc_iface, lC_cons, lN_nil, aP_some, shO_none, shO_some, Option.isNone_none, Option.isNone_some, Bool.not_true, Bool.not_false]
      exact hq _
theorem actionCut_ok (O : Own h μ ρ) (E : Errs ρ) (T : Vw ρ [] (some ⟨2, 0, none⟩) pow10) {ps : List Wds} {a : Option Addr} {cap : Nat} {n : Int} (X : Lns ρ ps a) (L : Long (ps.map Wds.x)) (hc : ps.length ≤ cap) (hq : ∀ h', Q (.bool true) h') :
    EvQ P f_brickyardlaw13_ActionCut [.slice a ps.length cap, .int .i64 n] h Q := by
  refine r_brickyardlaw13_ActionCut ?_
  refine works_ok O fun h1 μ1 ρ1 O1 F1 => ?_
  simp only [oB_some, bC_true, bC_false, vInt_int, vBool_bool, vStr_string, vPtr_pointer, vSl_slice, vMap_map, vFun_func, vAgg_agg, vTup_tuple, vIfc_nil, vIfc_iface, lC_cons, lN_nil, aP_some, shO_none, shO_some, Option.isNone_none, Option.isNone_some, Bool.not_true, Bool.not_false]
  refine wide_ok O1 (X.keep F1) L ?_
  simp only [oB_some, bC_true, bC_false, vInt_int, vBool_bool, vStr_string, vPtr_pointer, vSl_slice, vMap_map, vFun_func, vAgg_agg, vTup_tuple, vIfc_nil, vIfc_iface, lC_cons, lN_nil, aP_some, shO_none, shO_some, Option.isNone_none, Option.isNone_some, Bool.not_true, Bool.not_false]
  refine bC_iff (fun _ => hq _) (fun hw => ?_)
  have M := wide_not hw
  have hlen := M.len
  simp only [List.length_map] at hlen
  rw [wrapS (by omega)]
  have TB : Tbs (fun s => s.size ≤ 70368744177664) ρ1 := Tbs.keep (tbs_any E T) F1
  have step : ∀ k : Nat, k ≤ ps.length → unitAt P f_brickyardlaw13_ActionCut 8 [0, 5] [.slice a ps.length cap, .int .i64 (k : Int)] h1 Q := fun k hk => by
    have e : k = (ps.take k).length := by rw [List.length_take]; omega
    rw [e]
    exact cut_8 O1 TB (X.keep F1) M (by omega) (by rw [← e]) hc hq
  rw [show decide (((ps.length + 1 : Nat) : Int) = 0) = false from decide_eq_false (by omega)]
  simp only [oB_some, bC_true, bC_false, vInt_int, vBool_bool, vStr_string, vPtr_pointer, vSl_slice, vMap_map, vFun_func, vAgg_agg, vTup_tuple, vIfc_nil, vIfc_iface, lC_cons, lN_nil, aP_some, shO_none, shO_some, Option.isNone_none, Option.isNone_some, Bool.not_true, Bool.not_false]
  have b1 := Int.tmod_lt_of_pos n (show (0 : Int) < ((ps.length + 1 : Nat) : Int) by omega)
  have b2 := Int.lt_tmod_of_pos n (show (0 : Int) < ((ps.length + 1 : Nat) : Int) by omega)
  generalize Int.tmod n ((ps.length + 1 : Nat) : Int) = z at b1 b2 ⊢
  refine bC_iff (fun e => ?_) (fun e => ?_)
  · have e := of_decide_eq_true e
    rw [wrap_mid (by omega) (by omega)]
    have : z + ((ps.length + 1 : Nat) : Int) = ((z + ((ps.length + 1 : Nat) : Int)).toNat : Int) := by omega
    rw [this]
    exact step _ (by omega)
  · have e := of_decide_eq_false e
    have : z = (z.toNat : Int) := by omega
    rw [this]
    exact step _ (by omega)
end Go.Proofs.YtgdkekdedgkglaaDoor
end

section
/- What the rows of layer 13 share: types, a world for the witness. -/
open Go.RowKit
namespace Go.Proofs.YtgdkekdedgkglaaDoor
open Go.Abs Go.Abs.Fo Go.ChangeShapes Go.WideShapes
set_option maxRecDepth 100000
theorem own_knob : ownKnob Tryd.prog.godebug = none := by kernel_rfl
/-- A world for the witness: the tables and the errors hold what their initialisers lay. -/
noncomputable def lowB : Nat := (World.holding Tryd.prog default ⟨#[], #[], []⟩).heap.size
abbrev textRange : ByteArray := ⟨#[118, 97, 108, 117, 101, 32, 111, 117, 116, 32, 111, 102, 32, 114, 97, 110, 103, 101]⟩
abbrev textSyntax : ByteArray := ⟨#[105, 110, 118, 97, 108, 105, 100, 32, 115, 121, 110, 116, 97, 120]⟩
noncomputable def laidW (os : Os) : World :=
  let w0 := World.holding Tryd.prog os ⟨#[.cells #[.string textRange] 155, .cells #[.string textSyntax] 155], #[], []⟩
  { w0 with heap := ((putTab w0.heap [(4, Rows.laid_math_bits_deBruijn32tab), (5, Rows.laid_math_bits_deBruijn64tab), (2, Rows.laid_internal_strconv_uint64pow10)]).modify 1 fun
      | .cells _ t frozen => .cells #[.iface 153 (.pointer (some ⟨lowB, 0, none⟩))] t frozen
      | o => o).modify 0 fun
      | .cells _ t frozen => .cells #[.iface 153 (.pointer (some ⟨lowB + 1, 0, none⟩))] t frozen
      | o => o }
theorem laid_met {args : Array Value} (os : Os) : laidMet Tryd.prog Rows.actionSameRow.laid ((laidW os).forCall (fun _ _ => 0) ⟨#[], args, []⟩).memory :=
  laidMet_of_run' 8 (by kernel_rfl) (by kernel_rfl)
/-- The powers of ten, as the row lists them. -/
theorem pow_good {W : World} {rest : List (String × DataW Unit)} (h : laidMet Tryd.prog (("internal/strconv.uint64pow10", Rows.laid_internal_strconv_uint64pow10) :: rest) W) : GoodV W [(some ⟨2, 0, none⟩, pow10)] := by
  have ht : Lib.TabIs Tryd.prog W "internal/strconv.uint64pow10" .u64 [1, 10, 100, 1000, 10000, 100000, 1000000, 10000000, 100000000, 1000000000, 10000000000, 100000000000, 1000000000000, 10000000000000, 100000000000000, 1000000000000000, 10000000000000000, 100000000000000000, 1000000000000000000, 10000000000000000000] :=
    Lib.tabIs_of_head (g := 2) (t := 157) (e := 137) (n := 20) (by kernel_rfl) (by kernel_rfl) (by kernel_rfl) (by kernel_rfl) (by kernel_rfl) (by kernel_rfl) h
  have hg : Tryd.prog.globalNamed "internal/strconv.uint64pow10" = some 2 := by kernel_rfl
  intro a l hm
  simp at hm
  obtain ⟨rfl, rfl⟩ := hm
  refine ⟨2, 0, rfl, ?_, fun j hj => ?_⟩
  · have := cell_block (ht.cell hg 0 (by simp))
    simp only at this
    omega
  · have hc := ht.cell hg j (by simpa using hj)
    rw [Nat.zero_add]
    have := mir_rd hc (.int _ _)
    rw [this]
    have e : ∀ k : Fin 20, pow10[k.1]? = some (.int .u64 ([1, 10, 100, 1000, 10000, 100000, 1000000, 10000000, 100000000, 1000000000, 10000000000, 100000000000, 1000000000000, 10000000000000, 100000000000000, 1000000000000000, 10000000000000000, 100000000000000000, 1000000000000000000, 10000000000000000000].getD k.1 0)) := by
      intro k
      match k with
      | ⟨0, _⟩ | ⟨1, _⟩ | ⟨2, _⟩ | ⟨3, _⟩ | ⟨4, _⟩ | ⟨5, _⟩ | ⟨6, _⟩ | ⟨7, _⟩ | ⟨8, _⟩ | ⟨9, _⟩ | ⟨10, _⟩ | ⟨11, _⟩ | ⟨12, _⟩ | ⟨13, _⟩ | ⟨14, _⟩ | ⟨15, _⟩ | ⟨16, _⟩ | ⟨17, _⟩ | ⟨18, _⟩ | ⟨19, _⟩ => rfl
      | ⟨k + 20, hk⟩ => exact absurd hk (by omega)
    rw [e ⟨j, by simpa using hj⟩]
    rfl
theorem star_err : "*" ++ "errors.errorString" = "*errors.errorString" := by decide
theorem row_err (u : TypeId) (h : Tryd.prog.typeName? 3 u = some "*errors.errorString") : u = 153 :=
  typeName_ptr_named (nm := "errors.errorString") (by rw [star_err]; kernel_rfl) (by kernel_rfl) (by decide) u (by rw [star_err]; exact h)
/-- The library's two errors, as the row lists them. -/
theorem err_good {W : World} {rest : List (String × DataW Unit)} (h : laidMet Tryd.prog (("strconv.ErrRange", Rows.laid_strconv_ErrRange) :: ("strconv.ErrSyntax", Rows.laid_strconv_ErrSyntax) :: rest) W) :
    ∃ v0 v1, GoodV W [(some ⟨0, 0, none⟩, [.iface 153 v0]), (some ⟨1, 0, none⟩, [.iface 153 v1])] ∧ ifcB v0 = true ∧ ifcB v1 = true := by
  have hg0 : Tryd.prog.globalNamed "strconv.ErrRange" = some 1 := by kernel_rfl
  have hg1 : Tryd.prog.globalNamed "strconv.ErrSyntax" = some 0 := by kernel_rfl
  obtain ⟨a0, a1, s0, s1, c0, c1, t0, t1, hv0, hv1, hc0, _, _, hc1, _⟩ := laid_sentinels2 (P := Tryd.prog) (n0 := "strconv.ErrRange") (n1 := "strconv.ErrSyntax") (g0 := 1) (g1 := 0) (ti := 60) (tp := 153) (te := 155) (ts := 9) h hg0 (by kernel_rfl) hg1 (by kernel_rfl) Tryd.underlying60
    row_err Tryd.underlying153 Tryd.underlying155 rfl rfl Tryd.underlying9 (by kernel_rfl) (by kernel_rfl)
  have good : ∀ (g : Nat) (n : String) (a : Addr) (s : ByteArray), Tryd.prog.globalNamed n = some g → W.var? Tryd.prog n = some #[.iface 153 (.pointer (some a))] → W.cell? a = some (.string s) → GoodV W [(some ⟨g, 0, none⟩, [.iface 153 (.pointer (some a))])] ∧ ifcB (.pointer (some a)) = true := fun g n a s hg hv hc => by
    have hcell := World.var?_cell hg hv 0
    have hcell : W.cell? ⟨g, 0, none⟩ = some (.iface 153 (.pointer (some a))) := hcell
    obtain ⟨hb, hs⟩ := cell_block hc
    obtain ⟨b, off, sp⟩ := a
    simp only at hb hs
    subst hs
    refine ⟨GoodV.nil.cons (by have := (cell_block hcell).1; simp only at this; omega) fun j hj => ?_, rfl⟩
    have : j = 0 := by simpa using hj
    subst this
    exact mir_rd hcell (.iface _ (VRel.ptr (σ := 0) (κ := 0) (argMap_lt hb) (Nat.zero_le _)))
  obtain ⟨x0, y0⟩ := good 1 _ _ _ hg0 hv0 hc0
  obtain ⟨x1, y1⟩ := good 0 _ _ _ hg1 hv1 hc1
  exact ⟨_, _, x1.app x0, y1, y0⟩
theorem errs_of {W : World} {vs : List (Option Addr × List Value)} (G : GoodV W vs) {v0 v1 : Value} (h0 : (some ⟨0, 0, none⟩, [.iface 153 v0]) ∈ vs) (h1 : (some ⟨1, 0, none⟩, [.iface 153 v1]) ∈ vs) (i0 : ifcB v0 = true) (i1 : ifcB v1 = true) : Errs (argStore vs) :=
  ⟨⟨_, _, Vin.vw G (.inr h0), i0⟩, ⟨_, _, Vin.vw G (.inr h1), i1⟩⟩
theorem lns_of {W : World} {ps : List Wds} {a : Option Addr} {vs ws : List (Option Addr × List Value)} (G : GoodV W ws) (hs : ∀ x, x ∈ vs → x ∈ ws) (V : Vin vs a (ps.map Wds.cell)) (L : ∀ p, p ∈ ps → Vin vs p.a (strs p.x) ∧ p.x.length ≤ p.cap) : Lns (argStore ws) ps a :=
  ⟨(V.mono hs).vw G, fun p hp => ((L p hp).1.mono hs).vw G, fun p hp => (L p hp).2⟩
end Go.Proofs.YtgdkekdedgkglaaDoor
end
