/- A deterministic heap for the model, proved sound, and walks of the program over it: part 13. No condition. -/
import Derived.Test.YtgdkekdedgkglaaDoorAb1
import Derived.Test.YtgdkekdedgkglaaDoorAb2
import Derived.Test.YtgdkekdedgkglaaDoorAb3
import Derived.Test.YtgdkekdedgkglaaDoorAb4
import Derived.Test.YtgdkekdedgkglaaDoorCd1
import Derived.Test.YtgdkekdedgkglaaDoorCd3
import Derived.Test.YtgdkekdedgkglaaDoorCd6
import Derived.Test.YtgdkekdedgkglaaDoorAb5
import Derived.Test.YtgdkekdedgkglaaDoorCd5
import Derived.Test.YtgdkekdedgkglaaDoorCd4
import Derived.Test.YtgdkekdedgkglaaDoorCd2
import Derived.Test.YtgdkekdedgkglaaDoorAb6
import Derived.Test.YtgdkekdedgkglaaDoorCards
import Derived.Test.YtgdkekdedgkglaaDoorTie
import Derived.OpenShut
import Derived.Stop.LaidTwo
set_option linter.unusedVariables false
set_option linter.unusedSimpArgs false
set_option linter.unusedSectionVars false
section
/- Numbers read by the library from any word. -/
namespace Go.Proofs.YtgdkekdedgkglaaDoor
open Go.Abs Go.Abs.Fo
set_option maxRecDepth 100000
attribute [local irreducible] unitAt EvQ
variable {h : AW} {μ : Paint} {ρ : Store} {Q : Value → AW → Prop}
theorem lower_any {n : Int} (hq : ∀ m, Q (.int .u8 m) h) : EvQ P f_strconv_lower [.int .u8 n] h Q := r_strconv_lower (hq _)
/-- Whatever number, or an error. -/
structure UQ (Q : Value → AW → Prop) (ρ : Store) (k : IntKind) : Prop where
  ok : ∀ n, RdQ Q ρ (.tuple ⟨[.int k n, .nilIface]⟩)
  er : ∀ n (e : Nat), e = 1 ∨ e = 2 → RdQ Q ρ (.tuple ⟨[.int k n, .iface ty_strconv_Error (.int .i64 (e : Int))]⟩)
theorem uint_loop {s s3 : Str} {n4 n5 : Int} (hs : s.size ≤ 70368744177664) (U : UQ Q ρ .u64) :
    ∀ (d k : Nat) {n7 : Int} {h : AW} {μ : Paint} {ρ' : Store} {c : Nat} {a : Option Addr}, s.size - k = d → k ≤ s.size → Own h μ ρ' → Pcs ρ ρ' [c] [.sl a s.size 1 (ofBytes s.data.toList)] → ρ c = none →
      unitAt P f_strconv_ParseUint 36 [1, 8, 9, 10, 11, 12, 13, 99, 100, 101] [.int .i64 10, .bool false, .string s3, .int .u64 n4, .int .u64 n5, .bool false, .int .u64 n7, .slice a s.size s.size, .int .i64 (s.size : Int), .int .i64 (k : Int)] h Q := by
  have hlen : s.data.toList.length = s.size := rfl
  intro d
  induction d with
  | zero =>
    intro k n7 h μ ρ' c a hd hk O W hc
    refine r_strconv_ParseUint_36 ?_
    rw [geI (by omega)]
    simp only [oB_some, bC_true, bC_false, vInt_int, vBool_bool, vStr_string, vPtr_pointer, vSl_slice, vMap_map, vFun_func, vAgg_agg, vTup_tuple, vIfc_nil, vIfc_iface, lC_cons, lN_nil, aP_some, shO_none, shO_some, Option.isNone_none, Option.isNone_some, Bool.not_true, Bool.not_false]
    exact (U.ok _) _ _ _ O (W.fra0 fun c' hc' => by simp at hc'; rw [hc']; exact hc)
  | succ d ih =>
    intro k n7 h μ ρ' c a hd hk O W hc
    have hlt : k < s.size := by omega
    have hlt' : k < s.data.toList.length := by omega
    have F : Fra [] ρ ρ' := W.fra0 fun c' hc' => by simp at hc'; rw [hc']; exact hc
    have er : ∀ n (e : Nat), e = 1 ∨ e = 2 → Q (.tuple ⟨[.int .u64 n, .iface ty_strconv_Error (.int .i64 (e : Int))]⟩) h := fun n e he => U.er n e he _ _ _ O F
    have u46 : ∀ n8 : Int, unitAt P f_strconv_ParseUint 46 [1, 8, 9, 10, 11, 12, 13, 16, 99, 100, 101] [.int .i64 10, .bool false, .string s3, .int .u64 n4, .int .u64 n5, .bool false, .int .u64 n7, .int .u8 n8, .slice a s.size s.size, .int .i64 (s.size : Int), .int .i64 (k : Int)] h Q := by
      intro n8
      refine r_strconv_ParseUint_46 ?_
      refine bC_iff (fun _ => er 0 2 (.inr rfl)) (fun _ => ?_)
      refine bC_iff (fun _ => er _ 1 (.inl rfl)) (fun _ => ?_)
      refine bC_iff (fun _ => er _ 1 (.inl rfl)) (fun _ => ?_)
      refine bC_iff (fun _ => er _ 1 (.inl rfl)) (fun _ => ?_)
      rw [wrapS (by omega)]
      exact ih (k + 1) (by omega) (by omega) O W hc
    refine r_strconv_ParseUint_36 ?_
    rw [ltI hlt]
    simp only [oB_some, bC_true, bC_false, vInt_int, vBool_bool, vStr_string, vPtr_pointer, vSl_slice, vMap_map, vFun_func, vAgg_agg, vTup_tuple, vIfc_nil, vIfc_iface, lC_cons, lN_nil, aP_some, shO_none, shO_some, Option.isNone_none, Option.isNone_some, Bool.not_true, Bool.not_false]
    have hg : (ofBytes s.data.toList)[k]? = some (.int .u8 ((s.data.toList[k]).toNat : Int)) := by
      unfold ofBytes
      rw [List.getElem?_map, List.getElem?_eq_getElem hlt']; rfl
    refine (w_sl O W 0 rfl).i1 rfl (by unfold ofBytes; rw [List.length_map]; rfl) hg ?_
    simp only [oB_some, bC_true, bC_false, vInt_int, vBool_bool, vStr_string, vPtr_pointer, vSl_slice, vMap_map, vFun_func, vAgg_agg, vTup_tuple, vIfc_nil, vIfc_iface, lC_cons, lN_nil, aP_some, shO_none, shO_some, Option.isNone_none, Option.isNone_some, Bool.not_true, Bool.not_false]
    repeat' (first | exact u46 _ | exact er 0 2 (.inr rfl) | refine bC_iff (fun _ => ?_) (fun _ => ?_) | (refine lower_any fun m => ?_; simp only [oB_some, bC_true, bC_false, vInt_int, vBool_bool, vStr_string, vPtr_pointer, vSl_slice, vMap_map, vFun_func, vAgg_agg, vTup_tuple, vIfc_nil, vIfc_iface, lC_cons, lN_nil, aP_some, shO_none, shO_some, Option.isNone_none, Option.isNone_some, Bool.not_true, Bool.not_false]))
theorem uint_any (O : Own h μ ρ) {s : Str} (hs : s.size ≤ 70368744177664) (U : UQ Q ρ .u64) : EvQ P f_strconv_ParseUint [.string s, .int .i64 10, .int .i64 0] h Q := by
  refine r_strconv_ParseUint ?_
  refine bC_iff (fun _ => U.er 0 2 (.inr rfl) _ _ _ O Fra.refl) (fun _ => ?_)
  rw [show decide ((2 : Int) ≤ 10) = true from rfl, show decide ((10 : Int) ≤ 36) = true from rfl, show ((10 : Int) == 0) = false from rfl]
  simp only [oB_some, bC_true, bC_false, vInt_int, vBool_bool, vStr_string, vPtr_pointer, vSl_slice, vMap_map, vFun_func, vAgg_agg, vTup_tuple, vIfc_nil, vIfc_iface, lC_cons, lN_nil, aP_some, shO_none, shO_some, Option.isNone_none, Option.isNone_some, Bool.not_true, Bool.not_false]
  refine r_strconv_ParseUint_21 ?_
  rw [show ((0 : Int) == 0) = true from rfl]
  simp only [oB_some, bC_true, bC_false, vInt_int, vBool_bool, vStr_string, vPtr_pointer, vSl_slice, vMap_map, vFun_func, vAgg_agg, vTup_tuple, vIfc_nil, vIfc_iface, lC_cons, lN_nil, aP_some, shO_none, shO_some, Option.isNone_none, Option.isNone_some, Bool.not_true, Bool.not_false]
  refine r_strconv_ParseUint_25 ?_
  rw [show ((10 : Int) == 10) = true from rfl]
  simp only [oB_some, bC_true, bC_false, vInt_int, vBool_bool, vStr_string, vPtr_pointer, vSl_slice, vMap_map, vFun_func, vAgg_agg, vTup_tuple, vIfc_nil, vIfc_iface, lC_cons, lN_nil, aP_some, shO_none, shO_some, Option.isNone_none, Option.isNone_some, Bool.not_true, Bool.not_false]
  refine r_strconv_ParseUint_32 ?_
  rw [show decide (IntKind.wrap IntKind.u64 64 < 0) = false from rfl]
  simp only [oB_some, bC_true, bC_false, vInt_int, vBool_bool, vStr_string, vPtr_pointer, vSl_slice, vMap_map, vFun_func, vAgg_agg, vTup_tuple, vIfc_nil, vIfc_iface, lC_cons, lN_nil, aP_some, shO_none, shO_some, Option.isNone_none, Option.isNone_some, Bool.not_true, Bool.not_false]
  refine w_conv O p00 fun h1 μ1 ρ1 c a O1 W1 hc => ?_
  simp only [oB_some, bC_true, bC_false, vInt_int, vBool_bool, vStr_string, vPtr_pointer, vSl_slice, vMap_map, vFun_func, vAgg_agg, vTup_tuple, vIfc_nil, vIfc_iface, lC_cons, lN_nil, aP_some, shO_none, shO_some, Option.isNone_none, Option.isNone_some, Bool.not_true, Bool.not_false]
  exact uint_loop hs U _ 0 rfl (by omega) O1 W1 hc
theorem int_16 (O : Own h μ ρ) {b : Bool} {n : Int} (U : UQ Q ρ .i64) : unitAt P f_strconv_ParseInt 16 [2, 8, 9] [.int .i64 64, .bool b, .int .u64 n] h Q := by
  refine r_strconv_ParseInt_16 ?_
  rw [show decide (IntKind.wrap IntKind.u64 (IntKind.wrap IntKind.i64 (64 - 1)) < 0) = false from rfl]
  simp only [oB_some, bC_true, bC_false, vInt_int, vBool_bool, vStr_string, vPtr_pointer, vSl_slice, vMap_map, vFun_func, vAgg_agg, vTup_tuple, vIfc_nil, vIfc_iface, lC_cons, lN_nil, aP_some, shO_none, shO_some, Option.isNone_none, Option.isNone_some, Bool.not_true, Bool.not_false]
  repeat' (first | exact U.er _ 1 (.inl rfl) _ _ _ O Fra.refl | exact U.ok _ _ _ _ O Fra.refl | refine bC_iff (fun _ => ?_) (fun _ => ?_))
theorem UQ.keep {ρ' : Store} {k : IntKind} (U : UQ Q ρ k) (F : Fra [] ρ ρ') : UQ Q ρ' k := ⟨fun n => (U.ok n).keep F, fun n e he => (U.er n e he).keep F⟩
theorem int_10 (O : Own h μ ρ) {s : Str} (hs : s.size ≤ 70368744177664) {b : Bool} (U : UQ Q ρ .i64) : unitAt P f_strconv_ParseInt 10 [0, 1, 2, 8] [.string s, .int .i64 10, .int .i64 0, .bool b] h Q := by
  refine r_strconv_ParseInt_10 ?_
  refine uint_any O hs ⟨fun n h1 μ1 ρ1 O1 F1 => ?_, fun n e he h1 μ1 ρ1 O1 F1 => ?_⟩
  · simp only [oB_some, bC_true, bC_false, vInt_int, vBool_bool, vStr_string, vPtr_pointer, vSl_slice, vMap_map, vFun_func, vAgg_agg, vTup_tuple, vIfc_nil, vIfc_iface, lC_cons, lN_nil, aP_some, shO_none, shO_some, Option.isNone_none, Option.isNone_some, Bool.not_true, Bool.not_false]
    rw [show ((0 : Int) == 0) = true from rfl]
    simp only [oB_some, bC_true, bC_false, vInt_int, vBool_bool, vStr_string, vPtr_pointer, vSl_slice, vMap_map, vFun_func, vAgg_agg, vTup_tuple, vIfc_nil, vIfc_iface, lC_cons, lN_nil, aP_some, shO_none, shO_some, Option.isNone_none, Option.isNone_some, Bool.not_true, Bool.not_false]
    exact int_16 O1 (U.keep F1)
  · simp only [oB_some, bC_true, bC_false, vInt_int, vBool_bool, vStr_string, vPtr_pointer, vSl_slice, vMap_map, vFun_func, vAgg_agg, vTup_tuple, vIfc_nil, vIfc_iface, lC_cons, lN_nil, aP_some, shO_none, shO_some, Option.isNone_none, Option.isNone_some, Bool.not_true, Bool.not_false]
    rcases he with rfl | rfl
    · refine oB_bind (same_err 1 1) ?_
      show bC false _ _
      simp only [bC_false]
      rw [show ((0 : Int) == 0) = true from rfl]
      simp only [oB_some, bC_true, bC_false, vInt_int, vBool_bool, vStr_string, vPtr_pointer, vSl_slice, vMap_map, vFun_func, vAgg_agg, vTup_tuple, vIfc_nil, vIfc_iface, lC_cons, lN_nil, aP_some, shO_none, shO_some, Option.isNone_none, Option.isNone_some, Bool.not_true, Bool.not_false]
      exact int_16 O1 (U.keep F1)
    · refine oB_bind (same_err 2 1) ?_
      show bC true _ _
      simp only [bC_true]
      exact U.er 0 2 (.inr rfl) _ _ _ O1 F1
theorem bAt_lt {s : Str} {k : Nat} (hk : k < s.size) : bAt s k = some ((s.data.toList[k]'hk).toNat : Int) := by
  unfold bAt
  rw [Array.getElem?_eq_getElem (by exact hk)]
  simp
theorem sub_size {s : Str} {a b : Nat} : (bSub s a b).size ≤ s.size := by
  show (List.take (b - a) (List.drop a s.data.toList)).length ≤ s.data.toList.length
  rw [List.length_take, List.length_drop]; omega
theorem int_any (O : Own h μ ρ) {s : Str} (hs : s.size ≤ 70368744177664) (U : UQ Q ρ .i64) : EvQ P f_strconv_ParseInt [.string s, .int .i64 10, .int .i64 0] h Q := by
  refine r_strconv_ParseInt ?_
  refine bC_iff (fun _ => U.er 0 2 (.inr rfl) _ _ _ O Fra.refl) (fun e => ?_)
  have h0 : 0 < s.size := by
    rcases Nat.eq_zero_or_pos s.size with z | z
    · have : s = ⟨#[]⟩ := ByteArray.ext (Array.eq_empty_of_size_eq_zero z)
      rw [this] at e; simp at e
    · exact z
  rw [show natIdx 0 s.size = some 0 from natIdx_eq (j := 0) h0, show natBnd 1 s.size = some 1 from natBnd_eq (j := 1) h0]
  simp only [oB_some, bC_true, bC_false, vInt_int, vBool_bool, vStr_string, vPtr_pointer, vSl_slice, vMap_map, vFun_func, vAgg_agg, vTup_tuple, vIfc_nil, vIfc_iface, lC_cons, lN_nil, aP_some, shO_none, shO_some, Option.isNone_none, Option.isNone_some, Bool.not_true, Bool.not_false]
  refine oB_bind (bAt_lt h0) ?_
  refine bC_iff (fun _ => int_10 O (Nat.le_trans sub_size hs) U) (fun _ => ?_)
  refine bC_iff (fun _ => int_10 O (Nat.le_trans sub_size hs) U) (fun _ => int_10 O hs U)
/-- The short way, for any word and any start: a number, or an error. -/
theorem any_loop {s0 s : Str} (h0 : 0 < s0.size) (hs : s.size ≤ 70368744177664) (U : UQ Q ρ .i64) :
    ∀ (d k : Nat) {n : Int} {h : AW} {μ : Paint} {ρ' : Store} {c : Nat} {a : Option Addr}, s.size - k = d → k ≤ s.size → Own h μ ρ' → Pcs ρ ρ' [c] [.sl a s.size 1 (ofBytes s.data.toList)] → ρ c = none →
      unitAt P f_strconv_Atoi_78 10 [5, 6, 47, 48, 49] [.string s0, .int .i64 n, .slice a s.size s.size, .int .i64 (s.size : Int), .int .i64 (k : Int)] h Q := by
  have hlen : s.data.toList.length = s.size := rfl
  intro d
  induction d with
  | zero =>
    intro k n h μ ρ' c a hd hk O W hc
    have F : Fra [] ρ ρ' := W.fra0 fun c' hc' => by simp at hc'; rw [hc']; exact hc
    refine r_strconv_Atoi_78_10 ?_
    rw [geI (by omega), show natIdx 0 s0.size = some 0 from natIdx_eq (j := 0) h0]
    simp only [oB_some, bC_true, bC_false, vInt_int, vBool_bool, vStr_string, vPtr_pointer, vSl_slice, vMap_map, vFun_func, vAgg_agg, vTup_tuple, vIfc_nil, vIfc_iface, lC_cons, lN_nil, aP_some, shO_none, shO_some, Option.isNone_none, Option.isNone_some, Bool.not_true, Bool.not_false]
    refine oB_bind (bAt_lt h0) ?_
    exact bC_iff (fun _ => U.ok _ _ _ _ O F) (fun _ => U.ok _ _ _ _ O F)
  | succ d ih =>
    intro k n h μ ρ' c a hd hk O W hc
    have hlt : k < s.size := by omega
    have hlt' : k < s.data.toList.length := by omega
    have F : Fra [] ρ ρ' := W.fra0 fun c' hc' => by simp at hc'; rw [hc']; exact hc
    refine r_strconv_Atoi_78_10 ?_
    rw [ltI hlt]
    simp only [oB_some, bC_true, bC_false, vInt_int, vBool_bool, vStr_string, vPtr_pointer, vSl_slice, vMap_map, vFun_func, vAgg_agg, vTup_tuple, vIfc_nil, vIfc_iface, lC_cons, lN_nil, aP_some, shO_none, shO_some, Option.isNone_none, Option.isNone_some, Bool.not_true, Bool.not_false]
    have hg : (ofBytes s.data.toList)[k]? = some (.int .u8 ((s.data.toList[k]).toNat : Int)) := by
      unfold ofBytes
      rw [List.getElem?_map, List.getElem?_eq_getElem hlt']; rfl
    refine (w_sl O W 0 rfl).i1 rfl (by unfold ofBytes; rw [List.length_map]; rfl) hg ?_
    simp only [oB_some, bC_true, bC_false, vInt_int, vBool_bool, vStr_string, vPtr_pointer, vSl_slice, vMap_map, vFun_func, vAgg_agg, vTup_tuple, vIfc_nil, vIfc_iface, lC_cons, lN_nil, aP_some, shO_none, shO_some, Option.isNone_none, Option.isNone_some, Bool.not_true, Bool.not_false]
    refine bC_iff (fun _ => U.er 0 2 (.inr rfl) _ _ _ O F) (fun _ => ?_)
    rw [wrapS (by omega)]
    exact ih (k + 1) (by omega) (by omega) O W hc
theorem atoi8_any (O : Own h μ ρ) {s0 s : Str} (h0 : 0 < s0.size) (hs : s.size ≤ 70368744177664) (U : UQ Q ρ .i64) : unitAt P f_strconv_Atoi_78 8 [0, 5] [.string s, .string s0] h Q := by
  refine r_strconv_Atoi_78_8 ?_
  refine w_conv O p00 fun h5 μ2 ρ2 c a O2 W2 hc => ?_
  simp only [oB_some, bC_true, bC_false, vInt_int, vBool_bool, vStr_string, vPtr_pointer, vSl_slice, vMap_map, vFun_func, vAgg_agg, vTup_tuple, vIfc_nil, vIfc_iface, lC_cons, lN_nil, aP_some, shO_none, shO_some, Option.isNone_none, Option.isNone_some, Bool.not_true, Bool.not_false]
  exact any_loop h0 hs U _ 0 rfl (by omega) O2 W2 hc
theorem atoi78_any (O : Own h μ ρ) {s : Str} (hs : s.size ≤ 70368744177664) (U : UQ Q ρ .i64) : EvQ P f_strconv_Atoi_78 [.string s] h Q := by
  have slow : EvQ P f_strconv_ParseInt [.string s, .int .i64 10, .int .i64 0] h fun v8 h9 => vTup v8 fun l10 => lC l10 fun v11 l12 => vInt IntKind.i64 v11 fun n13 => lC l12 fun v14 l15 =>
      vIfc v14 (lN l15 (Q (Value.tuple (Array.mk [Value.int IntKind.i64 n13, Value.nilIface])) h9)) fun m16 v17 => lN l15 (Q (Value.tuple (Array.mk [Value.int IntKind.i64 n13, Value.iface m16 v17])) h9) := by
    refine int_any O hs ⟨fun n h1 μ1 ρ1 O1 F1 => ?_, fun n e he h1 μ1 ρ1 O1 F1 => ?_⟩
    · simp only [oB_some, bC_true, bC_false, vInt_int, vBool_bool, vStr_string, vPtr_pointer, vSl_slice, vMap_map, vFun_func, vAgg_agg, vTup_tuple, vIfc_nil, vIfc_iface, lC_cons, lN_nil, aP_some, shO_none, shO_some, Option.isNone_none, Option.isNone_some, Bool.not_true, Bool.not_false]
      exact U.ok _ _ _ _ O1 F1
    · simp only [oB_some, bC_true, bC_false, vInt_int, vBool_bool, vStr_string, vPtr_pointer, vSl_slice, vMap_map, vFun_func, vAgg_agg, vTup_tuple, vIfc_nil, vIfc_iface, lC_cons, lN_nil, aP_some, shO_none, shO_some, Option.isNone_none, Option.isNone_some, Bool.not_true, Bool.not_false]
      exact U.er _ e he _ _ _ O1 F1
  refine r_strconv_Atoi_78 ?_
  refine bC_iff (fun e => ?_) (fun _ => slow)
  have h0 : 0 < s.size := by have := of_decide_eq_true e; omega
  refine bC_iff (fun _ => ?_) (fun _ => slow)
  rw [show natIdx 0 s.size = some 0 from natIdx_eq (j := 0) h0, show natBnd 1 s.size = some 1 from natBnd_eq (j := 1) h0]
  simp only [oB_some, bC_true, bC_false, vInt_int, vBool_bool, vStr_string, vPtr_pointer, vSl_slice, vMap_map, vFun_func, vAgg_agg, vTup_tuple, vIfc_nil, vIfc_iface, lC_cons, lN_nil, aP_some, shO_none, shO_some, Option.isNone_none, Option.isNone_some, Bool.not_true, Bool.not_false]
  refine oB_bind (bAt_lt h0) ?_
  have er := fun n => U.er n 2 (.inr rfl) _ _ _ O Fra.refl
  refine bC_iff (fun _ => ?_) (fun _ => ?_)
  · exact bC_iff (fun _ => er _) (fun _ => atoi8_any O h0 (Nat.le_trans sub_size hs) U)
  · refine oB_bind (bAt_lt h0) ?_
    refine bC_iff (fun _ => ?_) (fun _ => atoi8_any O h0 hs U)
    exact bC_iff (fun _ => er _) (fun _ => atoi8_any O h0 (Nat.le_trans sub_size hs) U)
/-- Whatever the library makes of a word: some number, or an error. -/
theorem atoi_any (O : Own h μ ρ) (E : Errs ρ) {s : Str} (hs : s.size ≤ 70368744177664) (h1 : ∀ n, RdQ Q ρ (.tuple ⟨[.int .i64 n, .nilIface]⟩)) (h2 : ∀ n t p, RdQ Q ρ (.tuple ⟨[.int .i64 n, .iface t (.pointer p)]⟩)) : EvQ P f_strconv_Atoi [.string s] h Q := by
  refine r_strconv_Atoi ?_
  refine atoi78_any O hs ⟨fun n h3 μ3 ρ3 O3 F3 => ?_, fun n e he h3 μ3 ρ3 O3 F3 => ?_⟩
  · simp only [oB_some, bC_true, bC_false, vInt_int, vBool_bool, vStr_string, vPtr_pointer, vSl_slice, vMap_map, vFun_func, vAgg_agg, vTup_tuple, vIfc_nil, vIfc_iface, lC_cons, lN_nil, aP_some, shO_none, shO_some, Option.isNone_none, Option.isNone_some, Bool.not_true, Bool.not_false]
    exact h1 _ _ _ _ O3 F3
  · simp only [oB_some, bC_true, bC_false, vInt_int, vBool_bool, vStr_string, vPtr_pointer, vSl_slice, vMap_map, vFun_func, vAgg_agg, vTup_tuple, vIfc_nil, vIfc_iface, lC_cons, lN_nil, aP_some, shO_none, shO_some, Option.isNone_none, Option.isNone_some, Bool.not_true, Bool.not_false]
    refine toError_ok O3 (E.keep F3) hs he fun h4 μ4 ρ4 t p O4 F4 => ?_
    simp only [oB_some, bC_true, bC_false, vInt_int, vBool_bool, vStr_string, vPtr_pointer, vSl_slice, vMap_map, vFun_func, vAgg_agg, vTup_tuple, vIfc_nil, vIfc_iface, lC_cons, lN_nil, aP_some, shO_none, shO_some, Option.isNone_none, Option.isNone_some, Bool.not_true, Bool.not_false]
    exact h2 _ _ _ _ _ _ O4 (F3.trans F4)
theorem numM_bad {s : Str} (hd : ¬ ∃ v, v ≤ 1000 ∧ digS v = s) : numM s = -1 := by
  unfold numM
  split
  · rfl
  · split
    · rfl
    · rename_i n _
      rw [if_pos]
      by_cases h : n > 1000
      · exact .inl h
      · exact .inr fun e => hd ⟨n, by omega, e⟩
theorem numL_dig : ∀ k : Fin 1001, numL (digS k.1).data.toList 0 = some k.1 := by decide +kernel
theorem number_any (O : Own h μ ρ) (E : Errs ρ) (T : Vw ρ [] (some ⟨2, 0, none⟩) pow10) {s : Str} (hs : s.size ≤ 70368744177664) (hq : RdQ Q ρ (.int .i64 (numM s))) : EvQ P f_action_number [.string s] h Q := by
  by_cases hd : ∃ v, v ≤ 1000 ∧ digS v = s
  · obtain ⟨v, hv, rfl⟩ := hd
    have hl := digS_len ⟨v, by omega⟩
    simp only at hl
    exact number_digits O T ⟨hl.2, by omega, v, numL_dig ⟨v, by omega⟩⟩ hq
  · rw [numM_bad hd] at hq
    refine r_action_number ?_
    refine atoi_any O E hs (fun n h3 μ3 ρ3 O3 F3 => ?_) (fun n t p h3 μ3 ρ3 O3 F3 => ?_)
    · simp only [oB_some, bC_true, bC_false, vInt_int, vBool_bool, vStr_string, vPtr_pointer, vSl_slice, vMap_map, vFun_func, vAgg_agg, vTup_tuple, vIfc_nil, vIfc_iface, lC_cons, lN_nil, aP_some, shO_none, shO_some, Option.isNone_none, Option.isNone_some, Bool.not_true, Bool.not_false]
      refine bC_iff (fun _ => hq _ _ _ O3 F3) (fun e1 => ?_)
      refine bC_iff (fun _ => hq _ _ _ O3 F3) (fun e2 => ?_)
      have e1 := of_decide_eq_false e1
      have e2 := of_decide_eq_false e2
      obtain ⟨v, rfl⟩ : ∃ v : Nat, n = v := ⟨n.toNat, by omega⟩
      refine itoa_ok O3 (T.keep F3) (by omega) fun h4 μ4 ρ4 O4 F4 => ?_
      simp only [oB_some, bC_true, bC_false, vInt_int, vBool_bool, vStr_string, vPtr_pointer, vSl_slice, vMap_map, vFun_func, vAgg_agg, vTup_tuple, vIfc_nil, vIfc_iface, lC_cons, lN_nil, aP_some, shO_none, shO_some, Option.isNone_none, Option.isNone_some, Bool.not_true, Bool.not_false]
      refine bC_iff (fun _ => hq _ _ _ O4 (F3.trans F4)) (fun e => ?_)
      exact (hd ⟨v, by omega, bEq_iff.1 (nb' e)⟩).elim
    · simp only [oB_some, bC_true, bC_false, vInt_int, vBool_bool, vStr_string, vPtr_pointer, vSl_slice, vMap_map, vFun_func, vAgg_agg, vTup_tuple, vIfc_nil, vIfc_iface, lC_cons, lN_nil, aP_some, shO_none, shO_some, Option.isNone_none, Option.isNone_some, Bool.not_true, Bool.not_false]
      exact hq _ _ _ O3 F3
/-- The number may be asked of any word. -/
theorem tbs_any (E : Errs ρ) (T : Vw ρ [] (some ⟨2, 0, none⟩) pow10) : Tbs (fun s => s.size ≤ 70368744177664) ρ := fun O F g hq => number_any O (E.keep F) (T.keep F) g hq
end Go.Proofs.YtgdkekdedgkglaaDoor
end

section
/- The beginning of lines: the law's walk. -/
namespace Go.Proofs.YtgdkekdedgkglaaDoor
open Go.Abs Go.Abs.Fo
set_option maxRecDepth 100000
attribute [local irreducible] unitAt EvQ
variable {h : AW} {μ : Paint} {ρ : Store} {Q : Value → AW → Prop}
theorem mild_G {ps : List Wds} (M : Mild (ps.map Wds.x)) : ∀ p, p ∈ ps → ∀ w s, p.x = [w, s] → opOf w = 10 → s.size ≤ 70368744177664 := fun p hp w s e _ => by
  have := M.str p.x (List.mem_map_of_mem hp) s (by rw [e]; simp)
  omega
end Go.Proofs.YtgdkekdedgkglaaDoor
end

section
/- An action's lines, and its text, are just the action: the law's walk. -/
namespace Go.Proofs.YtgdkekdedgkglaaDoor
open Go.Abs Go.Abs.Fo
set_option maxRecDepth 100000
attribute [local irreducible] unitAt EvQ
variable {h : AW} {μ : Paint} {ρ ρ' : Store} {Q : Value → AW → Prop}
/-- What was read lies as the lines. -/
structure Read (ρ : Store) (nt nm : Nat) (oa : Option Addr) (oc : Nat) (outs : List Lx) (vs : List (Option Addr × Nat × Nat × List Value)) (ps : List Wds) : Prop where
  top : ρ nt = some (.sl oa oc 3 (outs.flatMap Lx.cells))
  ws : ρ nm = some (.many vs)
  ok : OutsOk vs outs
  e : outs.map (fun l => l.ws.map Wx.t) = ps.map Wds.x
section
variable {nt nm : Nat} {oa a : Option Addr} {oc ca : Nat} {outs : List Lx} {vs : List (Option Addr × Nat × Nat × List Value)} {ps : List Wds}
theorem Read.len (R : Read ρ nt nm oa oc outs vs ps) : outs.length = ps.length := by have := congrArg List.length R.e; simpa using this
theorem Read.at_ (R : Read ρ nt nm oa oc outs vs ps) {i : Nat} (h1 : i < outs.length) (h2 : i < ps.length) : outs[i].ws.map Wx.t = ps[i].x := by
  have := congrArg (fun l => l[i]?) R.e
  simpa [List.getElem?_map, List.getElem?_eq_getElem h1, List.getElem?_eq_getElem h2] using this
theorem out_at (O : Own h μ ρ) (R : Read ρ nt nm oa oc outs vs ps) {i : Nat} {z : Int} {N : Nat} (hz : z = i) (hN : N = outs.length) (hi : i < outs.length) {K : Value → Prop} (j : Nat) (hj : j < 3) {v : Value} (hv : (Lx.cells outs[i])[j]? = some v) (H : K v) :
    aP oa fun b off => oB (natIdx z N) fun k => oB (AW.rd h b (off + k * 3 + j)) K := by
  refine (O.sl R.top).ix (sz := 3) hz (by rw [hN]; exact lx_len outs) (by omega) (by omega) fun b off _ hr => ?_
  exact oB_bind ((hr j hj).trans ((flat_at Lx.cells 3 (fun _ => rfl) outs i j hi hj).trans hv)) H
theorem word_at (O : Own h μ ρ) (R : Read ρ nt nm oa oc outs vs ps) {i k : Nat} (hi : i < outs.length) {z : Int} {N : Nat} (hz : z = k) (hN : N = outs[i].ws.length) (hk : k < outs[i].ws.length) {K : Value → Prop} (j : Nat) (hj : j < 5) {v : Value} (hv : (Wx.cells outs[i].ws[k])[j]? = some v) (H : K v) :
    aP outs[i].a fun b off => oB (natIdx z N) fun k => oB (AW.rd h b (off + k * 5 + j)) K := by
  obtain ⟨cap, hm⟩ := R.ok _ (List.getElem_mem hi)
  have X := (Rd.of_many O (ns := []) (by simp) R.ws hm).sl O
  refine X.ix (sz := 5) hz (by rw [hN]; exact wx_len _) (by omega) (by omega) fun b off _ hr => ?_
  exact oB_bind ((hr j hj).trans ((flat_at Wx.cells 5 (fun _ => rfl) _ k j hk hj).trans hv)) H
theorem back_26 (O : Own h μ ρ) (R : Read ρ nt nm oa oc outs vs ps) (X : Lns ρ ps a) (hl : ps.length ≤ 1000000) {i : Nat} (hi : i < ps.length) (hw : ps[i].x.length ≤ 1000000)
    (fin : unitAt P f_brickyardlaw13_ActionBack 21 [0, 11, 13] [.slice a ps.length ca, .slice oa outs.length oc, .int .i64 ((i + 1 : Nat) : Int)] h Q) :
    ∀ (d k : Nat), ps[i].x.length - k = d → k ≤ ps[i].x.length → unitAt P f_brickyardlaw13_ActionBack 26 [0, 11, 13, 14] [.slice a ps.length ca, .slice oa outs.length oc, .int .i64 (i : Int), .int .i64 (k : Int)] h Q := by
  have hlen := R.len
  have h1 : i < outs.length := by omega
  have ea := R.at_ h1 hi
  have el : outs[i].ws.length = ps[i].x.length := by rw [← ea, List.length_map]
  intro d
  induction d with
  | zero =>
    intro k hd hk
    refine r_brickyardlaw13_ActionBack_26 ?_
    refine ln_at O X rfl rfl hi fun _ => ?_
    rw [show decide ((k : Int) < (ps[i].x.length : Int)) = false from decide_eq_false (by omega)]
    simp only [oB_some, bC_true, bC_false, vInt_int, vBool_bool, vStr_string, vPtr_pointer, vSl_slice, vMap_map, vFun_func, vAgg_agg, vTup_tuple, vIfc_nil, vIfc_iface, lC_cons, lN_nil, aP_some, shO_none, shO_some, Option.isNone_none, Option.isNone_some, Bool.not_true, Bool.not_false]
    rw [wrapS (by omega)]
    exact fin
  | succ d ih =>
    intro k hd hk
    have hk1 : k < ps[i].x.length := by omega
    have hk2 : k < outs[i].ws.length := by omega
    refine r_brickyardlaw13_ActionBack_26 ?_
    refine ln_at O X rfl rfl hi fun _ => ?_
    rw [show decide ((k : Int) < (ps[i].x.length : Int)) = true from decide_eq_true (by omega)]
    simp only [oB_some, bC_true, bC_false, vInt_int, vBool_bool, vStr_string, vPtr_pointer, vSl_slice, vMap_map, vFun_func, vAgg_agg, vTup_tuple, vIfc_nil, vIfc_iface, lC_cons, lN_nil, aP_some, shO_none, shO_some, Option.isNone_none, Option.isNone_some, Bool.not_true, Bool.not_false]
    refine out_at O R rfl rfl h1 2 (by omega) rfl ?_
    simp only [oB_some, bC_true, bC_false, vInt_int, vBool_bool, vStr_string, vPtr_pointer, vSl_slice, vMap_map, vFun_func, vAgg_agg, vTup_tuple, vIfc_nil, vIfc_iface, lC_cons, lN_nil, aP_some, shO_none, shO_some, Option.isNone_none, Option.isNone_some, Bool.not_true, Bool.not_false]
    refine word_at O R h1 rfl rfl hk2 0 (by omega) rfl ?_
    simp only [oB_some, bC_true, bC_false, vInt_int, vBool_bool, vStr_string, vPtr_pointer, vSl_slice, vMap_map, vFun_func, vAgg_agg, vTup_tuple, vIfc_nil, vIfc_iface, lC_cons, lN_nil, aP_some, shO_none, shO_some, Option.isNone_none, Option.isNone_some, Bool.not_true, Bool.not_false]
    refine ln_at O X rfl rfl hi fun v1 => ?_
    refine wd_at O v1 rfl rfl hk1 ?_
    have es : outs[i].ws[k].t = ps[i].x[k] := by
      have := congrArg (fun l => l[k]?) ea
      simpa [List.getElem?_map, List.getElem?_eq_getElem hk1, List.getElem?_eq_getElem hk2] using this
    rw [es, show bEq ps[i].x[k] ps[i].x[k] = true from bEq_iff.2 rfl]
    simp only [oB_some, bC_true, bC_false, vInt_int, vBool_bool, vStr_string, vPtr_pointer, vSl_slice, vMap_map, vFun_func, vAgg_agg, vTup_tuple, vIfc_nil, vIfc_iface, lC_cons, lN_nil, aP_some, shO_none, shO_some, Option.isNone_none, Option.isNone_some, Bool.not_true, Bool.not_false]
    refine out_at O R rfl rfl h1 2 (by omega) rfl ?_
    simp only [oB_some, bC_true, bC_false, vInt_int, vBool_bool, vStr_string, vPtr_pointer, vSl_slice, vMap_map, vFun_func, vAgg_agg, vTup_tuple, vIfc_nil, vIfc_iface, lC_cons, lN_nil, aP_some, shO_none, shO_some, Option.isNone_none, Option.isNone_some, Bool.not_true, Bool.not_false]
    refine word_at O R h1 rfl rfl hk2 4 (by omega) rfl ?_
    simp only [oB_some, bC_true, bC_false, vInt_int, vBool_bool, vStr_string, vPtr_pointer, vSl_slice, vMap_map, vFun_func, vAgg_agg, vTup_tuple, vIfc_nil, vIfc_iface, lC_cons, lN_nil, aP_some, shO_none, shO_some, Option.isNone_none, Option.isNone_some, Bool.not_true, Bool.not_false]
    rw [wrapS (by omega)]
    exact ih (k + 1) (by omega) (by omega)
theorem back_21 (O : Own h μ ρ) (R : Read ρ nt nm oa oc outs vs ps) (X : Lns ρ ps a) (hl : ps.length ≤ 1000000) (hw : ∀ p, p ∈ ps → p.x.length ≤ 1000000) (hq : Q (.bool true) h) :
    ∀ (d i : Nat), ps.length - i = d → i ≤ ps.length → unitAt P f_brickyardlaw13_ActionBack 21 [0, 11, 13] [.slice a ps.length ca, .slice oa outs.length oc, .int .i64 (i : Int)] h Q := by
  have hlen := R.len
  intro d
  induction d with
  | zero =>
    intro i hd hi
    refine r_brickyardlaw13_ActionBack_21 ?_
    rw [geI (by omega)]
    simp only [oB_some, bC_true, bC_false, vInt_int, vBool_bool, vStr_string, vPtr_pointer, vSl_slice, vMap_map, vFun_func, vAgg_agg, vTup_tuple, vIfc_nil, vIfc_iface, lC_cons, lN_nil, aP_some, shO_none, shO_some, Option.isNone_none, Option.isNone_some, Bool.not_true, Bool.not_false]
    exact hq
  | succ d ih =>
    intro i hd hi
    have h2 : i < ps.length := by omega
    have h1 : i < outs.length := by omega
    have ea := R.at_ h1 h2
    have el : outs[i].ws.length = ps[i].x.length := by rw [← ea, List.length_map]
    refine r_brickyardlaw13_ActionBack_21 ?_
    rw [ltI h2]
    simp only [oB_some, bC_true, bC_false, vInt_int, vBool_bool, vStr_string, vPtr_pointer, vSl_slice, vMap_map, vFun_func, vAgg_agg, vTup_tuple, vIfc_nil, vIfc_iface, lC_cons, lN_nil, aP_some, shO_none, shO_some, Option.isNone_none, Option.isNone_some, Bool.not_true, Bool.not_false]
    refine out_at O R rfl rfl h1 2 (by omega) rfl ?_
    simp only [oB_some, bC_true, bC_false, vInt_int, vBool_bool, vStr_string, vPtr_pointer, vSl_slice, vMap_map, vFun_func, vAgg_agg, vTup_tuple, vIfc_nil, vIfc_iface, lC_cons, lN_nil, aP_some, shO_none, shO_some, Option.isNone_none, Option.isNone_some, Bool.not_true, Bool.not_false]
    refine ln_at O X rfl rfl h2 fun _ => ?_
    rw [show (((outs[i].ws.length : Nat) : Int) != ((ps[i].x.length : Nat) : Int)) = false from by rw [el]; simp]
    simp only [oB_some, bC_true, bC_false, vInt_int, vBool_bool, vStr_string, vPtr_pointer, vSl_slice, vMap_map, vFun_func, vAgg_agg, vTup_tuple, vIfc_nil, vIfc_iface, lC_cons, lN_nil, aP_some, shO_none, shO_some, Option.isNone_none, Option.isNone_some, Bool.not_true, Bool.not_false]
    refine out_at O R rfl rfl h1 1 (by omega) rfl ?_
    simp only [oB_some, bC_true, bC_false, vInt_int, vBool_bool, vStr_string, vPtr_pointer, vSl_slice, vMap_map, vFun_func, vAgg_agg, vTup_tuple, vIfc_nil, vIfc_iface, lC_cons, lN_nil, aP_some, shO_none, shO_some, Option.isNone_none, Option.isNone_some, Bool.not_true, Bool.not_false]
    exact back_26 O R X hl h2 (hw _ (List.getElem_mem h2)) (ih (i + 1) (by omega) (by omega)) _ 0 rfl (Nat.zero_le _)
end
theorem actionBack_ok (O : Own h μ ρ) (E : Errs ρ) (T : Vw ρ [] (some ⟨2, 0, none⟩) pow10) {ps : List Wds} {a : Option Addr} {cap : Nat} (X : Lns ρ ps a) (L : Long (ps.map Wds.x)) (hq : ∀ h', Q (.bool true) h') :
    EvQ P f_brickyardlaw13_ActionBack [.slice a ps.length cap] h Q := by
  refine r_brickyardlaw13_ActionBack ?_
  refine works_ok O fun h1 μ1 ρ1 O1 F1 => ?_
  simp only [oB_some, bC_true, bC_false, vInt_int, vBool_bool, vStr_string, vPtr_pointer, vSl_slice, vMap_map, vFun_func, vAgg_agg, vTup_tuple, vIfc_nil, vIfc_iface, lC_cons, lN_nil, aP_some, shO_none, shO_some, Option.isNone_none, Option.isNone_some, Bool.not_true, Bool.not_false]
  refine wide_ok O1 (X.keep F1) L ?_
  simp only [oB_some, bC_true, bC_false, vInt_int, vBool_bool, vStr_string, vPtr_pointer, vSl_slice, vMap_map, vFun_func, vAgg_agg, vTup_tuple, vIfc_nil, vIfc_iface, lC_cons, lN_nil, aP_some, shO_none, shO_some, Option.isNone_none, Option.isNone_some, Bool.not_true, Bool.not_false]
  refine bC_iff (fun _ => hq _) (fun hw => ?_)
  have M := wide_not hw
  have hsum := wide_sum hw
  have hlen := M.len
  simp only [List.length_map] at hlen
  have X1 := X.keep F1
  have T1 := T.keep F1
  have TB0 : Tbs (fun s => s.size ≤ 70368744177664) ρ := tbs_any E T
  have TB : Tbs (fun s => s.size ≤ 70368744177664) ρ1 := TB0.keep F1
  obtain ⟨fit, lenf⟩ := fits_parse M
  rw [List.length_map] at lenf
  refine parse_spot O1 TB X1 M (mild_G M) p00 fun h2 h3 μ3 ρ3 s1 co1 cm1 oa1 oc1 cells1 vs1 O3 W3 F3 hs1 hco1 hcm1 L1 => ?_
  repeat (first | refine ⟨rfl, ?_⟩ | refine ⟨trivial, ?_⟩ | simp only [oB_some, bC_true, bC_false, vInt_int, vBool_bool, vStr_string, vPtr_pointer, vSl_slice, vMap_map, vFun_func, vAgg_agg, vTup_tuple, vIfc_nil, vIfc_iface, lC_cons, lN_nil, aP_some, shO_none, shO_some, Option.isNone_none, Option.isNone_some, Bool.not_true, Bool.not_false] | refine w_rd (by assumption) (by assumption) 0 (by rfl) (by rfl) ?_ | refine w_rd (by assumption) (by assumption) 1 (by rfl) (by rfl) ?_ | refine w_rd (by assumption) (by assumption) 2 (by rfl) (by rfl) ?_ | refine w_wrL (by assumption) (by assumption) 0 (by rfl) (Nat.le_of_ble_eq_true (by rfl)) (by rfl) fun h ρz O W => ?_ | refine w_wrL (by assumption) (by assumption) 1 (by rfl) (Nat.le_of_ble_eq_true (by rfl)) (by rfl) fun h ρz O W => ?_ | refine w_wrL (by assumption) (by assumption) 2 (by rfl) (Nat.le_of_ble_eq_true (by rfl)) (by rfl) fun h ρz O W => ?_ | refine w_wr (by assumption) (by assumption) 0 (by rfl) (Nat.le_of_ble_eq_true (by rfl)) (by rfl) fun h ρz O W => ?_ | refine w_wr (by assumption) (by assumption) 1 (by rfl) (Nat.le_of_ble_eq_true (by rfl)) (by rfl) fun h ρz O W => ?_ | refine w_wr (by assumption) (by assumption) 2 (by rfl) (Nat.le_of_ble_eq_true (by rfl)) (by rfl) fun h ρz O W => ?_)
  by_cases he : (parseM (ps.map Wds.x)).2.1 = 0
  rotate_left
  · obtain ⟨b1, b2, b3⟩ := parse_bad he
    rw [List.length_map] at b3
    rw [show (!((parseM (ps.map Wds.x)).2.1 == 0 && ((parseM (ps.map Wds.x)).2.2 == 0 && true))) = true from by simp [he], b1]
    rw [show (((F.nil.len : Nat) : Int) == 0) = true from rfl]
    simp only [oB_some, bC_true, bC_false, vInt_int, vBool_bool, vStr_string, vPtr_pointer, vSl_slice, vMap_map, vFun_func, vAgg_agg, vTup_tuple, vIfc_nil, vIfc_iface, lC_cons, lN_nil, aP_some, shO_none, shO_some, Option.isNone_none, Option.isNone_some, Bool.not_true, Bool.not_false]
    refine w_rd O3 W3 0 (j := 0) rfl rfl ?_
    simp only [oB_some, bC_true, bC_false, vInt_int, vBool_bool, vStr_string, vPtr_pointer, vSl_slice, vMap_map, vFun_func, vAgg_agg, vTup_tuple, vIfc_nil, vIfc_iface, lC_cons, lN_nil, aP_some, shO_none, shO_some, Option.isNone_none, Option.isNone_some, Bool.not_true, Bool.not_false]
    rw [show ((parseM (ps.map Wds.x)).2.1 != 0) = true from by simp [he]]
    simp only [oB_some, bC_true, bC_false, vInt_int, vBool_bool, vStr_string, vPtr_pointer, vSl_slice, vMap_map, vFun_func, vAgg_agg, vTup_tuple, vIfc_nil, vIfc_iface, lC_cons, lN_nil, aP_some, shO_none, shO_some, Option.isNone_none, Option.isNone_some, Bool.not_true, Bool.not_false]
    refine w_rd O3 W3 0 (j := 1) rfl rfl ?_
    simp only [oB_some, bC_true, bC_false, vInt_int, vBool_bool, vStr_string, vPtr_pointer, vSl_slice, vMap_map, vFun_func, vAgg_agg, vTup_tuple, vIfc_nil, vIfc_iface, lC_cons, lN_nil, aP_some, shO_none, shO_some, Option.isNone_none, Option.isNone_some, Bool.not_true, Bool.not_false]
    rw [show decide ((parseM (ps.map Wds.x)).2.2 ≥ 0) = true from decide_eq_true b2]
    simp only [oB_some, bC_true, bC_false, vInt_int, vBool_bool, vStr_string, vPtr_pointer, vSl_slice, vMap_map, vFun_func, vAgg_agg, vTup_tuple, vIfc_nil, vIfc_iface, lC_cons, lN_nil, aP_some, shO_none, shO_some, Option.isNone_none, Option.isNone_some, Bool.not_true, Bool.not_false]
    refine w_rd O3 W3 0 (j := 1) rfl rfl ?_
    simp only [oB_some, bC_true, bC_false, vInt_int, vBool_bool, vStr_string, vPtr_pointer, vSl_slice, vMap_map, vFun_func, vAgg_agg, vTup_tuple, vIfc_nil, vIfc_iface, lC_cons, lN_nil, aP_some, shO_none, shO_some, Option.isNone_none, Option.isNone_some, Bool.not_true, Bool.not_false]
    rw [decide_eq_true b3]
    exact hq _
  obtain ⟨m1, m2, m3⟩ := parse_back he
  obtain ⟨mw, _, _⟩ := F.may_iff.1 m1
  have hful := full_lines mw
  rw [m2] at hful
  have Y3 := Ly.of O3 (W3.at_ 1 _ _ rfl rfl) (W3.at_ 2 _ _ rfl rfl) L1
  rw [he, m3]
  have hP : parseM (ps.map Wds.x) = ((parseM (ps.map Wds.x)).1, 0, 0) := Prod.ext rfl (Prod.ext he m3)
  have hfull : full (parseM (ps.map Wds.x)).1 ≤ 262143 := Nat.le_trans hful (Nat.le_of_lt_succ hsum)
  generalize hf : (parseM (ps.map Wds.x)).1 = f at *
  rw [show (!((0 : Int) == 0 && ((0 : Int) == 0 && true))) = false from rfl]
  simp only [oB_some, bC_true, bC_false, vInt_int, vBool_bool, vStr_string, vPtr_pointer, vSl_slice, vMap_map, vFun_func, vAgg_agg, vTup_tuple, vIfc_nil, vIfc_iface, lC_cons, lN_nil, aP_some, shO_none, shO_some, Option.isNone_none, Option.isNone_some, Bool.not_true, Bool.not_false]
  have hs : Slim f := slim_full (by omega)
  have hz : f.size ≤ 1000000000 := by have := F.size_full f; omega
  have hl2 : f.len ≤ 140737488355328 := by omega
  have hlm : linesM f = ps.map Wds.x := by unfold linesM; rw [m1, if_pos rfl]; exact m2
  have hem : errM f = 0 := by unfold errM; rw [m1]; rfl
  have F3 := F1.trans F3
  refine linesC_ok O3 (T.keep F3) Y3 hl2 hz hs fun h4 μ4 ρ4 ob oc2 qs O4 F4 Z e4 => ?_
  rw [hlm] at e4
  rw [hem]
  simp only [oB_some, bC_true, bC_false, vInt_int, vBool_bool, vStr_string, vPtr_pointer, vSl_slice, vMap_map, vFun_func, vAgg_agg, vTup_tuple, vIfc_nil, vIfc_iface, lC_cons, lN_nil, aP_some, shO_none, shO_some, Option.isNone_none, Option.isNone_some, Bool.not_true, Bool.not_false]
  have Y4 := Y3.keep F4
  have F4 := F3.trans F4
  refine print_ok O4 (T.keep F4) Y4 hl2 hz hs (by omega) fun h5 μ5 ρ5 O5 F5 => ?_
  rw [hlm, hem]
  simp only [oB_some, bC_true, bC_false, vInt_int, vBool_bool, vStr_string, vPtr_pointer, vSl_slice, vMap_map, vFun_func, vAgg_agg, vTup_tuple, vIfc_nil, vIfc_iface, lC_cons, lN_nil, aP_some, shO_none, shO_some, Option.isNone_none, Option.isNone_some, Bool.not_true, Bool.not_false]
  have Y5 := Y4.keep F5
  have Z5 := Z.keep F5
  have F5 := F4.trans F5
  refine may_ok O5 Y5 hz fun h6 μ6 ρ6 O6 F6 => ?_
  rw [m1]
  have Y6 := Y5.keep F6
  have Z6 := Z5.keep F6
  have F6 := F5.trans F6
  rw [show ((0 : Int) != 0) = false from rfl]
  simp only [oB_some, bC_true, bC_false, vInt_int, vBool_bool, vStr_string, vPtr_pointer, vSl_slice, vMap_map, vFun_func, vAgg_agg, vTup_tuple, vIfc_nil, vIfc_iface, lC_cons, lN_nil, aP_some, shO_none, shO_some, Option.isNone_none, Option.isNone_some, Bool.not_true, Bool.not_false]
  have hqs : qs.length = ps.length := by have := congrArg List.length e4; simpa using this
  have hqx : ∀ q, q ∈ qs → q.x.length ≤ 262144 := fun q hq => by
    refine M.wds q.x ?_
    rw [← e4]
    exact List.mem_map_of_mem hq
  refine alike_ok O6 Z6 (X.keep F6) e4 (by omega) (fun q hq => by have := hqx q hq; omega) ?_
  simp only [oB_some, bC_true, bC_false, vInt_int, vBool_bool, vStr_string, vPtr_pointer, vSl_slice, vMap_map, vFun_func, vAgg_agg, vTup_tuple, vIfc_nil, vIfc_iface, lC_cons, lN_nil, aP_some, shO_none, shO_some, Option.isNone_none, Option.isNone_some, Bool.not_true, Bool.not_false]
  have MQ : Mild (qs.map Wds.x) := by rw [e4]; exact M
  refine parse_spot O6 (TB0.keep F6) Z6 MQ (mild_G MQ) p00 fun h7 h8 μ8 ρ8 s2 co2 cm2 oa2 oc2' cells2 vs2 O8 W8 F8 hs2 hco2 hcm2 L2 => ?_
  rw [e4, hP] at W8 L2 ⊢
  simp only at W8 L2 ⊢
  refine w_rd O8 W8 0 (j := 0) rfl rfl ?_
  simp only [oB_some, bC_true, bC_false, vInt_int, vBool_bool, vStr_string, vPtr_pointer, vSl_slice, vMap_map, vFun_func, vAgg_agg, vTup_tuple, vIfc_nil, vIfc_iface, lC_cons, lN_nil, aP_some, shO_none, shO_some, Option.isNone_none, Option.isNone_some, Bool.not_true, Bool.not_false]
  refine w_rd O8 W8 0 (j := 1) rfl rfl ?_
  simp only [oB_some, bC_true, bC_false, vInt_int, vBool_bool, vStr_string, vPtr_pointer, vSl_slice, vMap_map, vFun_func, vAgg_agg, vTup_tuple, vIfc_nil, vIfc_iface, lC_cons, lN_nil, aP_some, shO_none, shO_some, Option.isNone_none, Option.isNone_some, Bool.not_true, Bool.not_false]
  rw [show (!((0 : Int) == 0 && ((0 : Int) == 0 && true))) = false from rfl]
  simp only [oB_some, bC_true, bC_false, vInt_int, vBool_bool, vStr_string, vPtr_pointer, vSl_slice, vMap_map, vFun_func, vAgg_agg, vTup_tuple, vIfc_nil, vIfc_iface, lC_cons, lN_nil, aP_some, shO_none, shO_some, Option.isNone_none, Option.isNone_some, Bool.not_true, Bool.not_false]
  have Y8 := Ly.of O8 (W8.at_ 1 _ _ rfl rfl) (W8.at_ 2 _ _ rfl rfl) L2
  refine same_ok O8 (Y6.keep F8) Y8 fit hl2 fun h9 μ9 ρ9 O9 F9 => ?_
  rw [F.eqB_self]
  simp only [oB_some, bC_true, bC_false, vInt_int, vBool_bool, vStr_string, vPtr_pointer, vSl_slice, vMap_map, vFun_func, vAgg_agg, vTup_tuple, vIfc_nil, vIfc_iface, lC_cons, lN_nil, aP_some, shO_none, shO_some, Option.isNone_none, Option.isNone_some, Bool.not_true, Bool.not_false]
  have F9 := (F6.trans F8).trans F9
  refine bC_iff (fun _ => hq _) (fun htx => ?_)
  have hts : (⟨⟨prL (ps.map Wds.x)⟩⟩ : Str).size ≤ 32768 := by have := of_decide_eq_false htx; omega
  refine lexLines_ok O9 hts (ls := ps.map Wds.x) rfl (fun l hl => ⟨?_, ?_⟩) (by simp; omega) fun h10 μ10 ρ10 nt nm oa3 oc3 outs vs3 O10 F10 hnt hnm ht hm e10 hv => ?_
  · rw [← m2] at hl; exact lines_ne hl
  · have := M.wds l hl; omega
  simp only [oB_some, bC_true, bC_false, vInt_int, vBool_bool, vStr_string, vPtr_pointer, vSl_slice, vMap_map, vFun_func, vAgg_agg, vTup_tuple, vIfc_nil, vIfc_iface, lC_cons, lN_nil, aP_some, shO_none, shO_some, Option.isNone_none, Option.isNone_some, Bool.not_true, Bool.not_false]
  refine w_copyF O10 p00 rfl rfl rfl fun h11 μ11 ρ11 c11 O11 W11 hc11 F11 => ?_
  refine w_rd O11 W11 0 (j := 0) rfl rfl ?_
  simp only [oB_some, bC_true, bC_false, vInt_int, vBool_bool, vStr_string, vPtr_pointer, vSl_slice, vMap_map, vFun_func, vAgg_agg, vTup_tuple, vIfc_nil, vIfc_iface, lC_cons, lN_nil, aP_some, shO_none, shO_some, Option.isNone_none, Option.isNone_some, Bool.not_true, Bool.not_false]
  refine w_rd O11 W11 0 (j := 1) rfl rfl ?_
  simp only [oB_some, bC_true, bC_false, vInt_int, vBool_bool, vStr_string, vPtr_pointer, vSl_slice, vMap_map, vFun_func, vAgg_agg, vTup_tuple, vIfc_nil, vIfc_iface, lC_cons, lN_nil, aP_some, shO_none, shO_some, Option.isNone_none, Option.isNone_some, Bool.not_true, Bool.not_false]
  rw [show (!((0 : Int) == 0 && ((0 : Int) == 0 && true))) = false from rfl]
  simp only [oB_some, bC_true, bC_false, vInt_int, vBool_bool, vStr_string, vPtr_pointer, vSl_slice, vMap_map, vFun_func, vAgg_agg, vTup_tuple, vIfc_nil, vIfc_iface, lC_cons, lN_nil, aP_some, shO_none, shO_some, Option.isNone_none, Option.isNone_some, Bool.not_true, Bool.not_false]
  have hol : outs.length = ps.length := by have := congrArg List.length e10; simpa using this
  rw [show (((outs.length : Nat) : Int) != (ps.length : Int)) = false from by rw [hol]; simp]
  simp only [oB_some, bC_true, bC_false, vInt_int, vBool_bool, vStr_string, vPtr_pointer, vSl_slice, vMap_map, vFun_func, vAgg_agg, vTup_tuple, vIfc_nil, vIfc_iface, lC_cons, lN_nil, aP_some, shO_none, shO_some, Option.isNone_none, Option.isNone_some, Bool.not_true, Bool.not_false]
  exact back_21 O11 ⟨F11 _ _ (by simp) ht, F11 _ _ (by simp) hm, hv, e10⟩ (X.keep ((F9.trans F10).trans F11)) (by omega) (fun p hp => by have := M.wds p.x (List.mem_map_of_mem hp); omega) (hq _) _ 0 rfl (Nat.zero_le _)
end Go.Proofs.YtgdkekdedgkglaaDoor
end

section
/- What the rows of layer 13 share: types, a world for the witness. -/
open Go.RowKit
namespace Go.Proofs.YtgdkekdedgkglaaDoor
open Go.Abs Go.Abs.Fo Go.ChangeShapes Go.WideShapes
set_option maxRecDepth 100000
theorem own_knob : ownKnob Tryd.prog.godebug = none := by kernel_rfl
/-- A world for the witness: the tables and the errors hold what their initialisers lay. -/
noncomputable def lowB : Nat := (World.holding Tryd.prog default ⟨#[], #[], []⟩).heap.size
abbrev textRange : ByteArray := ⟨#[118, 97, 108, 117, 101, 32, 111, 117, 116, 32, 111, 102, 32, 114, 97, 110, 103, 101]⟩
abbrev textSyntax : ByteArray := ⟨#[105, 110, 118, 97, 108, 105, 100, 32, 115, 121, 110, 116, 97, 120]⟩
noncomputable def laidW (os : Os) : World :=
  let w0 := World.holding Tryd.prog os ⟨#[.cells #[.string textRange] 155, .cells #[.string textSyntax] 155], #[], []⟩
  { w0 with heap := ((putTab w0.heap [(4, Rows.laid_math_bits_deBruijn32tab), (5, Rows.laid_math_bits_deBruijn64tab), (2, Rows.laid_internal_strconv_uint64pow10)]).modify 1 fun
      | .cells _ t frozen => .cells #[.iface 153 (.pointer (some ⟨lowB, 0, none⟩))] t frozen
      | o => o).modify 0 fun
      | .cells _ t frozen => .cells #[.iface 153 (.pointer (some ⟨lowB + 1, 0, none⟩))] t frozen
      | o => o }
theorem laid_met {args : Array Value} (os : Os) : laidMet Tryd.prog Rows.actionSameRow.laid ((laidW os).forCall (fun _ _ => 0) ⟨#[], args, []⟩).memory :=
  laidMet_of_run' 8 (by kernel_rfl) (by kernel_rfl)
/-- The powers of ten, as the row lists them. -/
theorem pow_good {W : World} {rest : List (String × DataW Unit)} (h : laidMet Tryd.prog (("internal/strconv.uint64pow10", Rows.laid_internal_strconv_uint64pow10) :: rest) W) : GoodV W [(some ⟨2, 0, none⟩, pow10)] := by
  have ht : Lib.TabIs Tryd.prog W "internal/strconv.uint64pow10" .u64 [1, 10, 100, 1000, 10000, 100000, 1000000, 10000000, 100000000, 1000000000, 10000000000, 100000000000, 1000000000000, 10000000000000, 100000000000000, 1000000000000000, 10000000000000000, 100000000000000000, 1000000000000000000, 10000000000000000000] :=
    Lib.tabIs_of_head (g := 2) (t := 157) (e := 137) (n := 20) (by kernel_rfl) (by kernel_rfl) (by kernel_rfl) (by kernel_rfl) (by kernel_rfl) (by kernel_rfl) h
  have hg : Tryd.prog.globalNamed "internal/strconv.uint64pow10" = some 2 := by kernel_rfl
  intro a l hm
  simp at hm
  obtain ⟨rfl, rfl⟩ := hm
  refine ⟨2, 0, rfl, ?_, fun j hj => ?_⟩
  · have := cell_block (ht.cell hg 0 (by simp))
    simp only at this
    omega
  · have hc := ht.cell hg j (by simpa using hj)
    rw [Nat.zero_add]
    have := mir_rd hc (.int _ _)
    rw [this]
    have e : ∀ k : Fin 20, pow10[k.1]? = some (.int .u64 ([1, 10, 100, 1000, 10000, 100000, 1000000, 10000000, 100000000, 1000000000, 10000000000, 100000000000, 1000000000000, 10000000000000, 100000000000000, 1000000000000000, 10000000000000000, 100000000000000000, 1000000000000000000, 10000000000000000000].getD k.1 0)) := by
      intro k
      match k with
      | ⟨0, _⟩ | ⟨1, _⟩ | ⟨2, _⟩ | ⟨3, _⟩ | ⟨4, _⟩ | ⟨5, _⟩ | ⟨6, _⟩ | ⟨7, _⟩ | ⟨8, _⟩ | ⟨9, _⟩ | ⟨10, _⟩ | ⟨11, _⟩ | ⟨12, _⟩ | ⟨13, _⟩ | ⟨14, _⟩ | ⟨15, _⟩ | ⟨16, _⟩ | ⟨17, _⟩ | ⟨18, _⟩ | ⟨19, _⟩ => rfl
      | ⟨k + 20, hk⟩ => exact absurd hk (by omega)
    rw [e ⟨j, by simpa using hj⟩]
    rfl
theorem star_err : "*" ++ "errors.errorString" = "*errors.errorString" := by decide
theorem row_err (u : TypeId) (h : Tryd.prog.typeName? 3 u = some "*errors.errorString") : u = 153 :=
  typeName_ptr_named (nm := "errors.errorString") (by rw [star_err]; kernel_rfl) (by kernel_rfl) (by decide) u (by rw [star_err]; exact h)
/-- The library's two errors, as the row lists them. -/
theorem err_good {W : World} {rest : List (String × DataW Unit)} (h : laidMet Tryd.prog (("strconv.ErrRange", Rows.laid_strconv_ErrRange) :: ("strconv.ErrSyntax", Rows.laid_strconv_ErrSyntax) :: rest) W) :
    ∃ v0 v1, GoodV W [(some ⟨0, 0, none⟩, [.iface 153 v0]), (some ⟨1, 0, none⟩, [.iface 153 v1])] ∧ ifcB v0 = true ∧ ifcB v1 = true := by
  have hg0 : Tryd.prog.globalNamed "strconv.ErrRange" = some 1 := by kernel_rfl
  have hg1 : Tryd.prog.globalNamed "strconv.ErrSyntax" = some 0 := by kernel_rfl
  obtain ⟨a0, a1, s0, s1, c0, c1, t0, t1, hv0, hv1, hc0, _, _, hc1, _⟩ := laid_sentinels2 (P := Tryd.prog) (n0 := "strconv.ErrRange") (n1 := "strconv.ErrSyntax") (g0 := 1) (g1 := 0) (ti := 60) (tp := 153) (te := 155) (ts := 9) h hg0 (by kernel_rfl) hg1 (by kernel_rfl) Tryd.underlying60
    row_err Tryd.underlying153 Tryd.underlying155 rfl rfl Tryd.underlying9 (by kernel_rfl) (by kernel_rfl)
  have good : ∀ (g : Nat) (n : String) (a : Addr) (s : ByteArray), Tryd.prog.globalNamed n = some g → W.var? Tryd.prog n = some #[.iface 153 (.pointer (some a))] → W.cell? a = some (.string s) → GoodV W [(some ⟨g, 0, none⟩, [.iface 153 (.pointer (some a))])] ∧ ifcB (.pointer (some a)) = true := fun g n a s hg hv hc => by
    have hcell := World.var?_cell hg hv 0
    have hcell : W.cell? ⟨g, 0, none⟩ = some (.iface 153 (.pointer (some a))) := hcell
    obtain ⟨hb, hs⟩ := cell_block hc
    obtain ⟨b, off, sp⟩ := a
    simp only at hb hs
    subst hs
    refine ⟨GoodV.nil.cons (by have := (cell_block hcell).1; simp only at this; omega) fun j hj => ?_, rfl⟩
    have : j = 0 := by simpa using hj
    subst this
    exact mir_rd hcell (.iface _ (VRel.ptr (σ := 0) (κ := 0) (argMap_lt hb) (Nat.zero_le _)))
  obtain ⟨x0, y0⟩ := good 1 _ _ _ hg0 hv0 hc0
  obtain ⟨x1, y1⟩ := good 0 _ _ _ hg1 hv1 hc1
  exact ⟨_, _, x1.app x0, y1, y0⟩
theorem errs_of {W : World} {vs : List (Option Addr × List Value)} (G : GoodV W vs) {v0 v1 : Value} (h0 : (some ⟨0, 0, none⟩, [.iface 153 v0]) ∈ vs) (h1 : (some ⟨1, 0, none⟩, [.iface 153 v1]) ∈ vs) (i0 : ifcB v0 = true) (i1 : ifcB v1 = true) : Errs (argStore vs) :=
  ⟨⟨_, _, Vin.vw G (.inr h0), i0⟩, ⟨_, _, Vin.vw G (.inr h1), i1⟩⟩
theorem lns_of {W : World} {ps : List Wds} {a : Option Addr} {vs ws : List (Option Addr × List Value)} (G : GoodV W ws) (hs : ∀ x, x ∈ vs → x ∈ ws) (V : Vin vs a (ps.map Wds.cell)) (L : ∀ p, p ∈ ps → Vin vs p.a (strs p.x) ∧ p.x.length ≤ p.cap) : Lns (argStore ws) ps a :=
  ⟨(V.mono hs).vw G, fun p hp => ((L p hp).1.mono hs).vw G, fun p hp => (L p hp).2⟩
end Go.Proofs.YtgdkekdedgkglaaDoor
end
