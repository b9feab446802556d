/- A deterministic heap for the model, proved sound, and walks of the program over it: part 10. No condition. -/
import Derived.Test.YtgdkekdedgkglaaDoorAb1
import Derived.Test.YtgdkekdedgkglaaDoorAb2
import Derived.Test.YtgdkekdedgkglaaDoorAb3
import Derived.Test.YtgdkekdedgkglaaDoorAb4
import Derived.Test.YtgdkekdedgkglaaDoorAb6
import Derived.Test.YtgdkekdedgkglaaDoorCd2
import Derived.Test.YtgdkekdedgkglaaDoorCd3
import Derived.Test.YtgdkekdedgkglaaDoorAb5
import Derived.Test.YtgdkekdedgkglaaDoorCd1
set_option linter.unusedVariables false
set_option linter.unusedSimpArgs false
set_option linter.unusedSectionVars false
section
/- Numbers in decimal digits, made by the library. -/
namespace Go.Proofs.YtgdkekdedgkglaaDoor
open Go.Abs Go.Abs.Fo
set_option maxRecDepth 100000
attribute [local irreducible] unitAt EvQ
variable {h : AW} {μ : Paint} {ρ : Store} {Q : Value → AW → Prop}
def tblS : ByteArray := (ByteArray.mk (List.toArray (List.append (List.append [48, 48, 48, 49, 48, 50, 48, 51, 48, 52, 48, 53, 48, 54, 48, 55, 48, 56, 48, 57, 49, 48, 49, 49, 49, 50, 49, 51, 49, 52, 49,
  53, 49, 54, 49, 55, 49, 56, 49, 57, 50, 48, 50, 49, 50, 50, 50, 51, 50, 52] [50, 53, 50, 54, 50, 55, 50, 56, 50, 57, 51, 48, 51, 49, 51, 50, 51, 51, 51, 52, 51, 53, 51, 54, 51,
  55, 51, 56, 51, 57, 52, 48, 52, 49, 52, 50, 52, 51, 52, 52, 52, 53, 52, 54, 52, 55, 52, 56, 52, 57]) (List.append [53, 48, 53, 49, 53, 50, 53, 51, 53, 52, 53, 53, 53, 54, 53, 55,
  53, 56, 53, 57, 54, 48, 54, 49, 54, 50, 54, 51, 54, 52, 54, 53, 54, 54, 54, 55, 54, 56, 54, 57, 55, 48, 55, 49, 55, 50, 55, 51, 55, 52] [55, 53, 55, 54, 55, 55, 55, 56, 55, 57,
  56, 48, 56, 49, 56, 50, 56, 51, 56, 52, 56, 53, 56, 54, 56, 55, 56, 56, 56, 57, 57, 48, 57, 49, 57, 50, 57, 51, 57, 52, 57, 53, 57, 54, 57, 55, 57, 56, 57, 57]))))
def tblL : ByteArray := (ByteArray.mk (List.toArray (List.append (List.append [0, 1, 2, 2, 3, 3, 3, 3, 4, 4, 4, 4, 4, 4, 4, 4, 5, 5, 5, 5, 5, 5, 5, 5, 5, 5, 5, 5, 5, 5, 5, 5, 6, 6, 6, 6, 6, 6, 6, 6, 6, 6,
  6, 6, 6, 6, 6, 6, 6, 6, 6, 6, 6, 6, 6, 6, 6, 6, 6, 6, 6, 6, 6, 6] [7, 7, 7, 7, 7, 7, 7, 7, 7, 7, 7, 7, 7, 7, 7, 7, 7, 7, 7, 7, 7, 7, 7, 7, 7, 7, 7, 7, 7, 7, 7, 7, 7, 7, 7, 7, 7,
  7, 7, 7, 7, 7, 7, 7, 7, 7, 7, 7, 7, 7, 7, 7, 7, 7, 7, 7, 7, 7, 7, 7, 7, 7, 7, 7]) (List.append [8, 8, 8, 8, 8, 8, 8, 8, 8, 8, 8, 8, 8, 8, 8, 8, 8, 8, 8, 8, 8, 8, 8, 8, 8, 8, 8,
  8, 8, 8, 8, 8, 8, 8, 8, 8, 8, 8, 8, 8, 8, 8, 8, 8, 8, 8, 8, 8, 8, 8, 8, 8, 8, 8, 8, 8, 8, 8, 8, 8, 8, 8, 8, 8] [8, 8, 8, 8, 8, 8, 8, 8, 8, 8, 8, 8, 8, 8, 8, 8, 8, 8, 8, 8, 8, 8,
  8, 8, 8, 8, 8, 8, 8, 8, 8, 8, 8, 8, 8, 8, 8, 8, 8, 8, 8, 8, 8, 8, 8, 8, 8, 8, 8, 8, 8, 8, 8, 8, 8, 8, 8, 8, 8, 8, 8, 8, 8, 8]))))
theorem tblS_lo : ∀ k : Fin 100, bAt tblS (k.1 * 2) = some ((48 + k.1 / 10 : Nat) : Int) := by decide +kernel
theorem tblS_hi : ∀ k : Fin 100, bAt tblS (k.1 * 2 + 1) = some ((48 + k.1 % 10 : Nat) : Int) := by decide +kernel
theorem tblS_sub : ∀ k : Fin 100, 10 ≤ k.1 → bSub tblS (k.1 * 2) (k.1 * 2 + 2) = digS k.1 := by decide +kernel
theorem tblD_sub : ∀ k : Fin 10, bSub (ByteArray.mk #[48, 49, 50, 51, 52, 53, 54, 55, 56, 57, 97, 98, 99, 100, 101, 102, 103, 104, 105, 106, 107, 108, 109, 110, 111, 112, 113, 114, 115, 116, 117, 118, 119, 120, 121, 122]) k.1 (k.1 + 1) = digS k.1 := by decide +kernel
def lenM (n : Nat) : Nat := if n ≥ 128 then 8 else if n ≥ 64 then 7 else if n ≥ 32 then 6 else if n ≥ 16 then 5 else if n ≥ 8 then 4 else if n ≥ 4 then 3 else if n ≥ 2 then 2 else if n ≥ 1 then 1 else 0
theorem tblL_at : ∀ k : Fin 256, bAt tblL k.1 = some (lenM k.1 : Int) := by decide +kernel
theorem small_ok {n : Nat} (hn : n < 100) (hq : Q (.string (digS n)) h) : EvQ P f_strconv_small [.int .i64 (n : Int)] h Q := by
  refine r_strconv_small ?_
  refine bC_iff (fun e => ?_) (fun e => ?_)
  · have e : n < 10 := by have := of_decide_eq_true e; omega
    rw [wrapS (by omega), natBnd_eq (show n + 1 ≤ 36 by omega)]
    simp only [oB_some, bC_true, bC_false, vInt_int, vBool_bool, vStr_string, vPtr_pointer, vSl_slice, vMap_map, vFun_func, vAgg_agg, vTup_tuple, vIfc_nil, vIfc_iface, lC_cons, lN_nil, aP_some, shO_none, shO_some, Option.isNone_none, Option.isNone_some, Bool.not_true, Bool.not_false]
    rw [natBnd_eq (show n ≤ n + 1 by omega)]
    simp only [oB_some, bC_true, bC_false, vInt_int, vBool_bool, vStr_string, vPtr_pointer, vSl_slice, vMap_map, vFun_func, vAgg_agg, vTup_tuple, vIfc_nil, vIfc_iface, lC_cons, lN_nil, aP_some, shO_none, shO_some, Option.isNone_none, Option.isNone_some, Bool.not_true, Bool.not_false]
    have := tblD_sub ⟨n, e⟩
    simp only at this
    rw [this]; exact hq
  · have e : ¬ n < 10 := by have := of_decide_eq_false e; omega
    have h2 : IntKind.wrap .i64 ((n : Int) * 2) = ((n * 2 : Nat) : Int) := by rw [wrap_sm (n := (n : Int) * 2) (by omega) (by omega)]; omega
    have h3 : IntKind.wrap .i64 (((n * 2 : Nat) : Int) + 2) = ((n * 2 + 2 : Nat) : Int) := by rw [wrap_sm (n := ((n * 2 : Nat) : Int) + 2) (by omega) (by omega)]; omega
    rw [h2, h3, natBnd_eq (show n * 2 + 2 ≤ 200 by omega)]
    simp only [oB_some, bC_true, bC_false, vInt_int, vBool_bool, vStr_string, vPtr_pointer, vSl_slice, vMap_map, vFun_func, vAgg_agg, vTup_tuple, vIfc_nil, vIfc_iface, lC_cons, lN_nil, aP_some, shO_none, shO_some, Option.isNone_none, Option.isNone_some, Bool.not_true, Bool.not_false]
    rw [natBnd_eq (show n * 2 ≤ n * 2 + 2 by omega)]
    simp only [oB_some, bC_true, bC_false, vInt_int, vBool_bool, vStr_string, vPtr_pointer, vSl_slice, vMap_map, vFun_func, vAgg_agg, vTup_tuple, vIfc_nil, vIfc_iface, lC_cons, lN_nil, aP_some, shO_none, shO_some, Option.isNone_none, Option.isNone_some, Bool.not_true, Bool.not_false]
    have := tblS_sub ⟨n, hn⟩ (by simp only; omega)
    simp only at this
    have e2 : bSub tblS (n * 2) (n * 2 + 2) = digS n := this
    have hq2 : Q (.string (bSub tblS (n * 2) (n * 2 + 2))) h := by rw [e2]; exact hq
    exact hq2
/-- The powers of ten. -/
abbrev pow10 : List Value := [.int .u64 1, .int .u64 10, .int .u64 100, .int .u64 1000, .int .u64 10000, .int .u64 100000, .int .u64 1000000, .int .u64 10000000, .int .u64 100000000, .int .u64 1000000000, .int .u64 10000000000, .int .u64 100000000000, .int .u64 1000000000000, .int .u64 10000000000000, .int .u64 100000000000000, .int .u64 1000000000000000, .int .u64 10000000000000000, .int .u64 100000000000000000, .int .u64 1000000000000000000, .int .u64 10000000000000000000]
theorem len64_ok {n : Nat} (hn : n ≤ 1000) (hq : Q (.int .i64 ((if n ≥ 256 then 8 + lenM (n / 256) else lenM n : Nat) : Int)) h) : EvQ P f_math_bits_Len64 [.int .u64 (n : Int)] h Q := by
  refine r_math_bits_Len64 ?_
  rw [show decide ((n : Int) ≥ 4294967296) = false from decide_eq_false (by omega)]
  simp only [oB_some, bC_true, bC_false, vInt_int, vBool_bool, vStr_string, vPtr_pointer, vSl_slice, vMap_map, vFun_func, vAgg_agg, vTup_tuple, vIfc_nil, vIfc_iface, lC_cons, lN_nil, aP_some, shO_none, shO_some, Option.isNone_none, Option.isNone_some, Bool.not_true, Bool.not_false]
  refine r_math_bits_Len64_4 ?_
  rw [show decide ((n : Int) ≥ 65536) = false from decide_eq_false (by omega)]
  simp only [oB_some, bC_true, bC_false, vInt_int, vBool_bool, vStr_string, vPtr_pointer, vSl_slice, vMap_map, vFun_func, vAgg_agg, vTup_tuple, vIfc_nil, vIfc_iface, lC_cons, lN_nil, aP_some, shO_none, shO_some, Option.isNone_none, Option.isNone_some, Bool.not_true, Bool.not_false]
  refine r_math_bits_Len64_7 ?_
  have hlen : ∀ k, lenM k ≤ 8 := fun k => by unfold lenM; repeat' split
                                             all_goals omega
  refine bC_iff (fun e => ?_) (fun e => ?_)
  · have e : n ≥ 256 := by have := of_decide_eq_true e; omega
    rw [if_pos e] at hq
    have h1 : IntKind.wrap .u8 (Int.fdiv (n : Int) 256) = ((n / 256 : Nat) : Int) := by
      have : Int.fdiv (n : Int) ((256 : Nat) : Int) = ((n / 256 : Nat) : Int) := by rw [Int.fdiv_eq_ediv_of_nonneg _ (by omega)]; rfl
      rw [show (256 : Int) = ((256 : Nat) : Int) from rfl, this, wrap8 (by omega)]
    rw [h1, natIdx_eq (show n / 256 < 256 by omega)]
    simp only [oB_some, bC_true, bC_false, vInt_int, vBool_bool, vStr_string, vPtr_pointer, vSl_slice, vMap_map, vFun_func, vAgg_agg, vTup_tuple, vIfc_nil, vIfc_iface, lC_cons, lN_nil, aP_some, shO_none, shO_some, Option.isNone_none, Option.isNone_some, Bool.not_true, Bool.not_false]
    have ht := tblL_at ⟨n / 256, by omega⟩
    refine oB_bind (show bAt _ (n / 256) = _ from ht) ?_
    have := hlen (n / 256)
    rw [wrap_sm (n := (lenM (n / 256) : Int)) (by omega) (by omega), show IntKind.wrap .i64 (0 + 8) = 8 from rfl, wrap_sm (n := 8 + (lenM (n / 256) : Int)) (by omega) (by omega)]
    have e3 : (8 : Int) + (lenM (n / 256) : Int) = ((8 + lenM (n / 256) : Nat) : Int) := by omega
    rw [e3]; exact hq
  · have e : ¬ n ≥ 256 := by have := of_decide_eq_false e; omega
    rw [if_neg e] at hq
    rw [wrap8 (n := n) (by omega), natIdx_eq (show n < 256 by omega)]
    simp only [oB_some, bC_true, bC_false, vInt_int, vBool_bool, vStr_string, vPtr_pointer, vSl_slice, vMap_map, vFun_func, vAgg_agg, vTup_tuple, vIfc_nil, vIfc_iface, lC_cons, lN_nil, aP_some, shO_none, shO_some, Option.isNone_none, Option.isNone_some, Bool.not_true, Bool.not_false]
    have ht := tblL_at ⟨n, by omega⟩
    refine oB_bind (show bAt _ n = _ from ht) ?_
    have := hlen n
    rw [wrap_sm (n := (lenM n : Int)) (by omega) (by omega), wrap_sm (n := 0 + (lenM n : Int)) (by omega) (by omega), Int.zero_add]
    exact hq
theorem lens : ∀ k : Fin 1001, 100 ≤ k.1 → (if k.1 ≥ 256 then 8 + lenM (k.1 / 256) else lenM k.1) * 78913 / 262144 = (if k.1 ≥ 512 then 3 else 2) := by decide +kernel
theorem numDigits_ok (O : Own h μ ρ) (T : Vw ρ [] (some ⟨2, 0, none⟩) pow10) {n : Nat} (h1 : 100 ≤ n) (h2 : n ≤ 1000) (hq : Q (.int .i64 ((if n = 1000 then 4 else 3 : Nat) : Int)) h) : EvQ P f_strconv_numDigits [.int .u64 (n : Int)] h Q := by
  refine r_strconv_numDigits ?_
  refine len64_ok h2 ?_
  simp only [oB_some, bC_true, bC_false, vInt_int, vBool_bool, vStr_string, vPtr_pointer, vSl_slice, vMap_map, vFun_func, vAgg_agg, vTup_tuple, vIfc_nil, vIfc_iface, lC_cons, lN_nil, aP_some, shO_none, shO_some, Option.isNone_none, Option.isNone_some, Bool.not_true, Bool.not_false]
  refine r_strconv_log10Pow2 ?_
  have hl := lens ⟨n, by omega⟩ h1
  simp only at hl
  generalize (if n ≥ 256 then 8 + lenM (n / 256) else lenM n) = L at hl
  have hL : L < 1000 := by
    rcases Nat.lt_or_ge L 1000 with x | x
    · exact x
    · have : 1000 * 78913 / 262144 ≤ L * 78913 / 262144 := Nat.div_le_div_right (Nat.mul_le_mul_right _ x)
      rw [hl] at this
      have h3 : 1000 * 78913 / 262144 = 301 := rfl
      rw [h3] at this
      split at this <;> omega
  have e1 : Int.fdiv (IntKind.wrap .i64 ((L : Int) * 78913)) 262144 = ((L * 78913 / 262144 : Nat) : Int) := by
    rw [wrap_sm (n := (L : Int) * 78913) (by omega) (by omega)]
    rw [Int.fdiv_eq_ediv_of_nonneg _ (by omega)]
    omega
  rw [e1, hl]
  simp only [oB_some, bC_true, bC_false, vInt_int, vBool_bool, vStr_string, vPtr_pointer, vSl_slice, vMap_map, vFun_func, vAgg_agg, vTup_tuple, vIfc_nil, vIfc_iface, lC_cons, lN_nil, aP_some, shO_none, shO_some, Option.isNone_none, Option.isNone_some, Bool.not_true, Bool.not_false]
  have X := T.sl O
  by_cases h5 : n ≥ 512
  · rw [if_pos h5, natIdx_eq (show 3 < 20 by omega)]
    simp only [oB_some, bC_true, bC_false, vInt_int, vBool_bool, vStr_string, vPtr_pointer, vSl_slice, vMap_map, vFun_func, vAgg_agg, vTup_tuple, vIfc_nil, vIfc_iface, lC_cons, lN_nil, aP_some, shO_none, shO_some, Option.isNone_none, Option.isNone_some, Bool.not_true, Bool.not_false]
    refine oB_bind (v := .int .u64 1000) (Sl.get (j := 3) X rfl) ?_
    simp only [oB_some, bC_true, bC_false, vInt_int, vBool_bool, vStr_string, vPtr_pointer, vSl_slice, vMap_map, vFun_func, vAgg_agg, vTup_tuple, vIfc_nil, vIfc_iface, lC_cons, lN_nil, aP_some, shO_none, shO_some, Option.isNone_none, Option.isNone_some, Bool.not_true, Bool.not_false]
    refine r_strconv_bool2_int ?_
    refine bC_iff (fun e => ?_) (fun e => ?_)
    · have e : n = 1000 := by have := of_decide_eq_true e; omega
      rw [if_pos e] at hq
      exact hq
    · have e : n ≠ 1000 := by have := of_decide_eq_false e; omega
      rw [if_neg e] at hq
      exact hq
  · rw [if_neg h5, natIdx_eq (show 2 < 20 by omega)]
    simp only [oB_some, bC_true, bC_false, vInt_int, vBool_bool, vStr_string, vPtr_pointer, vSl_slice, vMap_map, vFun_func, vAgg_agg, vTup_tuple, vIfc_nil, vIfc_iface, lC_cons, lN_nil, aP_some, shO_none, shO_some, Option.isNone_none, Option.isNone_some, Bool.not_true, Bool.not_false]
    refine oB_bind (v := .int .u64 100) (Sl.get (j := 2) X rfl) ?_
    simp only [oB_some, bC_true, bC_false, vInt_int, vBool_bool, vStr_string, vPtr_pointer, vSl_slice, vMap_map, vFun_func, vAgg_agg, vTup_tuple, vIfc_nil, vIfc_iface, lC_cons, lN_nil, aP_some, shO_none, shO_some, Option.isNone_none, Option.isNone_some, Bool.not_true, Bool.not_false]
    refine r_strconv_bool2_int ?_
    rw [show decide ((n : Int) ≥ 100) = true from decide_eq_true (by omega)]
    simp only [oB_some, bC_true, bC_false, vInt_int, vBool_bool, vStr_string, vPtr_pointer, vSl_slice, vMap_map, vFun_func, vAgg_agg, vTup_tuple, vIfc_nil, vIfc_iface, lC_cons, lN_nil, aP_some, shO_none, shO_some, Option.isNone_none, Option.isNone_some, Bool.not_true, Bool.not_false]
    rw [if_neg (by omega)] at hq
    exact hq
theorem bytes_of {i off : Nat} : ∀ (l : List UInt8), (∀ j (hj : j < l.length), h.rd i (off + j) = some (.int .u8 (l[j].toNat : Int))) → AW.bytes h (some ⟨i, off, none⟩) l.length = some ⟨⟨l⟩⟩ := by
  intro l hl
  have key : ∀ (l : List UInt8) (off : Nat), (∀ j (hj : j < l.length), h.rd i (off + j) = some (.int .u8 (l[j].toNat : Int))) → h.rdN i off l.length = some (l.map fun b => .int .u8 (b.toNat : Int)) := by
    intro l
    induction l with
    | nil => intro off _; rfl
    | cons b l ih =>
      intro off hl
      simp only [List.length_cons, AW.rdN]
      have h0 := hl 0 (by simp)
      rw [Nat.add_zero] at h0
      rw [h0]
      simp only
      rw [ih (off + 1) fun j hj => by
        have := hl (j + 1) (by simp; omega)
        rw [show off + 1 + j = off + (j + 1) from by omega, this]; simp]
      rfl
  have kb : ∀ l : List UInt8, bytesV (l.map fun b => Value.int .u8 (b.toNat : Int)) = some l := by
    intro l
    induction l with
    | nil => rfl
    | cons b l ih =>
      simp only [List.map_cons, bytesV, ih]
      simp
  unfold AW.bytes
  simp only
  rw [key l off hl]
  simp only
  rw [kb]
end Go.Proofs.YtgdkekdedgkglaaDoor
end

section
/- Numbers in decimal digits: those of three and four digits. -/
namespace Go.Proofs.YtgdkekdedgkglaaDoor
open Go.Abs Go.Abs.Fo
set_option maxRecDepth 100000
attribute [local irreducible] unitAt EvQ
variable {h : AW} {μ : Paint} {ρ : Store} {Q : Value → AW → Prop}
theorem dig3 : ∀ k : Fin 1000, 100 ≤ k.1 → digS k.1 = ⟨#[UInt8.ofNat (48 + k.1 / 100), UInt8.ofNat (48 + k.1 % 100 / 10), UInt8.ofNat (48 + k.1 % 10)]⟩ := by decide +kernel
theorem sl24 (O : Own h μ ρ) {ρ0 : Store} {ns : List Nat} {rs : List Res} (W : Pcs ρ0 ρ ns rs) (i : Nat) {p : Nat} {l : List Value} (hr : rs[i]? = some (.var p l)) {k : Nat} (hk : k + 1 ≤ 24) :
    sliceQ P h ty_24_uint8 (.pointer (some ⟨p, 0, none⟩)) (some (.int .i64 1)) (some (.int .i64 ((k + 1 : Nat) : Int))) = some (.slice (some ⟨p, 1, none⟩) k 23) := by
  obtain ⟨c, _, hc⟩ := W.get i hr
  obtain ⟨_, _, t, ho, _⟩ := O.holds _ _ hc
  unfold sliceQ
  rw [ti_ty_24_uint8]
  simp only
  have e1 : bndO (some (Value.int .i64 ((k + 1 : Nat) : Int))) 24 24 = some (k + 1) := by
    unfold bndO bnd
    simp only
    show (match Nat.ble (k + 1) 24 with | true => some (k + 1) | false => none) = _
    rw [Nat.ble_eq_true_of_le hk]
  rw [e1]
  simp only
  have e2 : bndO (some (Value.int .i64 1)) (k + 1) 0 = some 1 := by
    unfold bndO bnd
    show (match Nat.ble 1 (k + 1) with | true => some 1 | false => none) = _
    rw [Nat.ble_eq_true_of_le (by omega)]
  rw [e2, ti_ty_uint8, ho]
  rfl
theorem u32 {n : Nat} (hn : n < 4294967296) : IntKind.wrap .u32 (n : Int) = (n : Int) := by
  unfold IntKind.wrap
  simp [IntKind.signed, IntKind.bits]
  omega
theorem u64 {n : Nat} (hn : n < 4294967296) : IntKind.wrap .u64 (n : Int) = (n : Int) := by
  unfold IntKind.wrap
  simp [IntKind.signed, IntKind.bits]
  omega
theorem itoa3 (O : Own h μ ρ) (T : Vw ρ [] (some ⟨2, 0, none⟩) pow10) {n : Nat} (h1 : 100 ≤ n) (hk : n < 1000) (hq : RdQ Q ρ (.string (digS n))) : EvQ P f_strconv_FormatInt [.int .i64 (n : Int), .int .i64 10] h Q := by
  refine r_strconv_FormatInt ?_
  rw [show ((10 : Int) == 10) = true from rfl]
  simp only [oB_some, bC_true, bC_false, vInt_int, vBool_bool, vStr_string, vPtr_pointer, vSl_slice, vMap_map, vFun_func, vAgg_agg, vTup_tuple, vIfc_nil, vIfc_iface, lC_cons, lN_nil, aP_some, shO_none, shO_some, Option.isNone_none, Option.isNone_some, Bool.not_true, Bool.not_false]
  rw [show decide ((0 : Int) ≤ (n : Int)) = true from decide_eq_true (by omega)]
  simp only [oB_some, bC_true, bC_false, vInt_int, vBool_bool, vStr_string, vPtr_pointer, vSl_slice, vMap_map, vFun_func, vAgg_agg, vTup_tuple, vIfc_nil, vIfc_iface, lC_cons, lN_nil, aP_some, shO_none, shO_some, Option.isNone_none, Option.isNone_some, Bool.not_true, Bool.not_false]
  rw [show decide ((n : Int) < 100) = false from decide_eq_false (by omega)]
  simp only [oB_some, bC_true, bC_false, vInt_int, vBool_bool, vStr_string, vPtr_pointer, vSl_slice, vMap_map, vFun_func, vAgg_agg, vTup_tuple, vIfc_nil, vIfc_iface, lC_cons, lN_nil, aP_some, shO_none, shO_some, Option.isNone_none, Option.isNone_some, Bool.not_true, Bool.not_false]
  rw [show decide ((n : Int) < 0) = false from decide_eq_false (by omega)]
  simp only [oB_some, bC_true, bC_false, vInt_int, vBool_bool, vStr_string, vPtr_pointer, vSl_slice, vMap_map, vFun_func, vAgg_agg, vTup_tuple, vIfc_nil, vIfc_iface, lC_cons, lN_nil, aP_some, shO_none, shO_some, Option.isNone_none, Option.isNone_some, Bool.not_true, Bool.not_false]
  obtain ⟨μ1, ρ1, c1, O1, W1, hc1⟩ := w_new O p00 [.int .u8 0, .int .u8 0, .int .u8 0, .int .u8 0, .int .u8 0, .int .u8 0, .int .u8 0, .int .u8 0, .int .u8 0, .int .u8 0, .int .u8 0, .int .u8 0, .int .u8 0, .int .u8 0, .int .u8 0, .int .u8 0, .int .u8 0, .int .u8 0, .int .u8 0, .int .u8 0, .int .u8 0, .int .u8 0, .int .u8 0, .int .u8 0]
  have one : ∀ c, c ∈ [c1] → ρ c = none := fun c hc => by simp at hc; rw [hc]; exact hc1
  refine r_strconv_FormatInt_8 ?_
  rw [u64 (by omega)]
  refine numDigits_ok O1 (T.keep (W1.fra0 one)) h1 (by omega) ?_
  rw [if_neg (by omega)]
  simp only [oB_some, bC_true, bC_false, vInt_int, vBool_bool, vStr_string, vPtr_pointer, vSl_slice, vMap_map, vFun_func, vAgg_agg, vTup_tuple, vIfc_nil, vIfc_iface, lC_cons, lN_nil, aP_some, shO_none, shO_some, Option.isNone_none, Option.isNone_some, Bool.not_true, Bool.not_false]
  rw [show IntKind.wrap .i64 (1 + ((3 : Nat) : Int)) = ((3 + 1 : Nat) : Int) from rfl]
  rw [sl24 O1 W1 0 rfl (k := 3) (by omega)]
  simp only [oB_some, bC_true, bC_false, vInt_int, vBool_bool, vStr_string, vPtr_pointer, vSl_slice, vMap_map, vFun_func, vAgg_agg, vTup_tuple, vIfc_nil, vIfc_iface, lC_cons, lN_nil, aP_some, shO_none, shO_some, Option.isNone_none, Option.isNone_some, Bool.not_true, Bool.not_false]
  refine r_strconv_formatBase10 ?_
  refine r_strconv_formatBase10_1 ?_
  rw [show decide (((3 : Nat) : Int) ≥ 8) = false from rfl]
  simp only [oB_some, bC_true, bC_false, vInt_int, vBool_bool, vStr_string, vPtr_pointer, vSl_slice, vMap_map, vFun_func, vAgg_agg, vTup_tuple, vIfc_nil, vIfc_iface, lC_cons, lN_nil, aP_some, shO_none, shO_some, Option.isNone_none, Option.isNone_some, Bool.not_true, Bool.not_false]
  rw [u32 (by omega), show decide (((3 : Nat) : Int) ≥ 4) = false from rfl]
  simp only [oB_some, bC_true, bC_false, vInt_int, vBool_bool, vStr_string, vPtr_pointer, vSl_slice, vMap_map, vFun_func, vAgg_agg, vTup_tuple, vIfc_nil, vIfc_iface, lC_cons, lN_nil, aP_some, shO_none, shO_some, Option.isNone_none, Option.isNone_some, Bool.not_true, Bool.not_false]
  refine r_strconv_formatBase10_20 ?_
  rw [show decide (((3 : Nat) : Int) ≥ 2) = true from rfl]
  simp only [oB_some, bC_true, bC_false, vInt_int, vBool_bool, vStr_string, vPtr_pointer, vSl_slice, vMap_map, vFun_func, vAgg_agg, vTup_tuple, vIfc_nil, vIfc_iface, lC_cons, lN_nil, aP_some, shO_none, shO_some, Option.isNone_none, Option.isNone_some, Bool.not_true, Bool.not_false]
  have e1 : Int.tmod (n : Int) 100 * 2 = ((n % 100 * 2 : Nat) : Int) := by
    have : Int.tmod (n : Int) ((100 : Nat) : Int) = ((n % 100 : Nat) : Int) := rfl
    rw [show (100 : Int) = ((100 : Nat) : Int) from rfl, this]; omega
  have e2 : ((n % 100 * 2 : Nat) : Int) + 1 = ((n % 100 * 2 + 1 : Nat) : Int) := by omega
  rw [e1, u32 (n := n % 100 * 2) (by omega), e2, u32 (n := n % 100 * 2 + 1) (by omega), natIdx_eq (show n % 100 * 2 + 1 < 200 by omega)]
  simp only [oB_some, bC_true, bC_false, vInt_int, vBool_bool, vStr_string, vPtr_pointer, vSl_slice, vMap_map, vFun_func, vAgg_agg, vTup_tuple, vIfc_nil, vIfc_iface, lC_cons, lN_nil, aP_some, shO_none, shO_some, Option.isNone_none, Option.isNone_some, Bool.not_true, Bool.not_false]
  have hm : n % 100 < 100 := Nat.mod_lt _ (by omega)
  refine oB_bind (show bAt _ (n % 100 * 2 + 1) = _ from tblS_hi ⟨n % 100, hm⟩) ?_
  rw [natIdx_eq (show n % 100 * 2 < 200 by omega)]
  simp only [oB_some, bC_true, bC_false, vInt_int, vBool_bool, vStr_string, vPtr_pointer, vSl_slice, vMap_map, vFun_func, vAgg_agg, vTup_tuple, vIfc_nil, vIfc_iface, lC_cons, lN_nil, aP_some, shO_none, shO_some, Option.isNone_none, Option.isNone_some, Bool.not_true, Bool.not_false]
  refine oB_bind (show bAt _ (n % 100 * 2) = _ from tblS_lo ⟨n % 100, hm⟩) ?_
  rw [show natIdx (IntKind.wrap .i64 (((3 : Nat) : Int) - 1)) 3 = some 2 from rfl]
  simp only [oB_some, bC_true, bC_false, vInt_int, vBool_bool, vStr_string, vPtr_pointer, vSl_slice, vMap_map, vFun_func, vAgg_agg, vTup_tuple, vIfc_nil, vIfc_iface, lC_cons, lN_nil, aP_some, shO_none, shO_some, Option.isNone_none, Option.isNone_some, Bool.not_true, Bool.not_false]
  refine w_wr O1 W1 0 (j := 3) rfl (Nat.le_of_ble_eq_true rfl) rfl fun h2 ρ2 O2 W2 => ?_
  rw [show natIdx (IntKind.wrap .i64 (((3 : Nat) : Int) - 2)) 3 = some 1 from rfl]
  simp only [oB_some, bC_true, bC_false, vInt_int, vBool_bool, vStr_string, vPtr_pointer, vSl_slice, vMap_map, vFun_func, vAgg_agg, vTup_tuple, vIfc_nil, vIfc_iface, lC_cons, lN_nil, aP_some, shO_none, shO_some, Option.isNone_none, Option.isNone_some, Bool.not_true, Bool.not_false]
  refine w_wr O2 W2 0 (j := 2) rfl (Nat.le_of_ble_eq_true rfl) rfl fun h3 ρ3 O3 W3 => ?_
  refine r_strconv_formatBase10_25 ?_
  rw [show decide (IntKind.wrap .i64 (((3 : Nat) : Int) - 2) > 0) = true from rfl]
  simp only [oB_some, bC_true, bC_false, vInt_int, vBool_bool, vStr_string, vPtr_pointer, vSl_slice, vMap_map, vFun_func, vAgg_agg, vTup_tuple, vIfc_nil, vIfc_iface, lC_cons, lN_nil, aP_some, shO_none, shO_some, Option.isNone_none, Option.isNone_some, Bool.not_true, Bool.not_false]
  rw [show natIdx 0 3 = some 0 from rfl]
  simp only [oB_some, bC_true, bC_false, vInt_int, vBool_bool, vStr_string, vPtr_pointer, vSl_slice, vMap_map, vFun_func, vAgg_agg, vTup_tuple, vIfc_nil, vIfc_iface, lC_cons, lN_nil, aP_some, shO_none, shO_some, Option.isNone_none, Option.isNone_some, Bool.not_true, Bool.not_false]
  refine w_wr O3 W3 0 (j := 1) rfl (Nat.le_of_ble_eq_true rfl) rfl fun h4 ρ4 O4 W4 => ?_
  rw [show decide ((n : Int) < 0) = false from decide_eq_false (by omega)]
  simp only [oB_some, bC_true, bC_false, vInt_int, vBool_bool, vStr_string, vPtr_pointer, vSl_slice, vMap_map, vFun_func, vAgg_agg, vTup_tuple, vIfc_nil, vIfc_iface, lC_cons, lN_nil, aP_some, shO_none, shO_some, Option.isNone_none, Option.isNone_some, Bool.not_true, Bool.not_false]
  rw [sl24 O4 W4 0 rfl (k := 3) (by omega)]
  simp only [oB_some, bC_true, bC_false, vInt_int, vBool_bool, vStr_string, vPtr_pointer, vSl_slice, vMap_map, vFun_func, vAgg_agg, vTup_tuple, vIfc_nil, vIfc_iface, lC_cons, lN_nil, aP_some, shO_none, shO_some, Option.isNone_none, Option.isNone_some, Bool.not_true, Bool.not_false]
  have e3 : Int.tdiv (n : Int) 100 = ((n / 100 : Nat) : Int) := rfl
  have e4 : IntKind.wrap .u8 (IntKind.wrap .u32 (48 + IntKind.wrap .u32 (Int.tdiv (n : Int) 100))) = ((48 + n / 100 : Nat) : Int) := by
    rw [e3, u32 (n := n / 100) (by omega), show (48 : Int) + ((n / 100 : Nat) : Int) = ((48 + n / 100 : Nat) : Int) from by omega, u32 (n := 48 + n / 100) (by omega), wrap8 (by omega)]
  have hd := dig3 ⟨n, hk⟩ h1
  simp only at hd
  have key : AW.bytes h4 (some ⟨h.next, 1, none⟩) 3 = some (digS n) := by
    rw [hd]
    refine bytes_of [UInt8.ofNat (48 + n / 100), UInt8.ofNat (48 + n % 100 / 10), UInt8.ofNat (48 + n % 10)] fun j hj => ?_
    obtain ⟨c, _, hc⟩ := W4.get 0 rfl
    rw [O4.rd hc]
    match j, hj with
    | 0, _ =>
      show some (Value.int .u8 _) = some (Value.int .u8 (((UInt8.ofNat (48 + n / 100)).toNat : Nat) : Int))
      rw [e4, UInt8.toNat_ofNat', Nat.mod_eq_of_lt (show 48 + n / 100 < 2 ^ 8 by omega)]
    | 1, _ =>
      show some (Value.int .u8 _) = some (Value.int .u8 (((UInt8.ofNat (48 + n % 100 / 10)).toNat : Nat) : Int))
      rw [UInt8.toNat_ofNat', Nat.mod_eq_of_lt (show 48 + n % 100 / 10 < 2 ^ 8 by omega)]
    | 2, _ =>
      show some (Value.int .u8 _) = some (Value.int .u8 (((UInt8.ofNat (48 + n % 10)).toNat : Nat) : Int))
      rw [UInt8.toNat_ofNat', Nat.mod_eq_of_lt (show 48 + n % 10 < 2 ^ 8 by omega)]
      have : n % 100 % 10 = n % 10 := by omega
      first | rw [← this] | (simp only [this])
    | j + 3, hj => simp at hj; omega
  rw [key]
  exact hq _ _ _ O4 (W4.fra0 one)
theorem itoa1000 (O : Own h μ ρ) (T : Vw ρ [] (some ⟨2, 0, none⟩) pow10) (hq : RdQ Q ρ (.string (digS 1000))) : EvQ P f_strconv_FormatInt [.int .i64 1000, .int .i64 10] h Q := by
  refine r_strconv_FormatInt ?_
  rw [show ((10 : Int) == 10) = true from rfl, show decide ((0 : Int) ≤ 1000) = true from rfl, show decide ((1000 : Int) < 100) = false from rfl, show decide ((1000 : Int) < 0) = false from rfl]
  simp only [oB_some, bC_true, bC_false, vInt_int, vBool_bool, vStr_string, vPtr_pointer, vSl_slice, vMap_map, vFun_func, vAgg_agg, vTup_tuple, vIfc_nil, vIfc_iface, lC_cons, lN_nil, aP_some, shO_none, shO_some, Option.isNone_none, Option.isNone_some, Bool.not_true, Bool.not_false]
  obtain ⟨μ1, ρ1, c1, O1, W1, hc1⟩ := w_new O p00 [.int .u8 0, .int .u8 0, .int .u8 0, .int .u8 0, .int .u8 0, .int .u8 0, .int .u8 0, .int .u8 0, .int .u8 0, .int .u8 0, .int .u8 0, .int .u8 0, .int .u8 0, .int .u8 0, .int .u8 0, .int .u8 0, .int .u8 0, .int .u8 0, .int .u8 0, .int .u8 0, .int .u8 0, .int .u8 0, .int .u8 0, .int .u8 0]
  have one : ∀ c, c ∈ [c1] → ρ c = none := fun c hc => by simp at hc; rw [hc]; exact hc1
  refine r_strconv_FormatInt_8 ?_
  rw [show IntKind.wrap .u64 1000 = ((1000 : Nat) : Int) from rfl]
  refine numDigits_ok O1 (T.keep (W1.fra0 one)) (by omega) (by omega) ?_
  rw [if_pos rfl]
  simp only [oB_some, bC_true, bC_false, vInt_int, vBool_bool, vStr_string, vPtr_pointer, vSl_slice, vMap_map, vFun_func, vAgg_agg, vTup_tuple, vIfc_nil, vIfc_iface, lC_cons, lN_nil, aP_some, shO_none, shO_some, Option.isNone_none, Option.isNone_some, Bool.not_true, Bool.not_false]
  rw [show IntKind.wrap .i64 (1 + ((4 : Nat) : Int)) = ((4 + 1 : Nat) : Int) from rfl]
  rw [sl24 O1 W1 0 rfl (k := 4) (by omega)]
  simp only [oB_some, bC_true, bC_false, vInt_int, vBool_bool, vStr_string, vPtr_pointer, vSl_slice, vMap_map, vFun_func, vAgg_agg, vTup_tuple, vIfc_nil, vIfc_iface, lC_cons, lN_nil, aP_some, shO_none, shO_some, Option.isNone_none, Option.isNone_some, Bool.not_true, Bool.not_false]
  refine r_strconv_formatBase10 ?_
  refine r_strconv_formatBase10_1 ?_
  rw [show decide (((4 : Nat) : Int) ≥ 8) = false from rfl]
  simp only [oB_some, bC_true, bC_false, vInt_int, vBool_bool, vStr_string, vPtr_pointer, vSl_slice, vMap_map, vFun_func, vAgg_agg, vTup_tuple, vIfc_nil, vIfc_iface, lC_cons, lN_nil, aP_some, shO_none, shO_some, Option.isNone_none, Option.isNone_some, Bool.not_true, Bool.not_false]
  rw [show decide (((4 : Nat) : Int) ≥ 4) = true from rfl]
  simp only [oB_some, bC_true, bC_false, vInt_int, vBool_bool, vStr_string, vPtr_pointer, vSl_slice, vMap_map, vFun_func, vAgg_agg, vTup_tuple, vIfc_nil, vIfc_iface, lC_cons, lN_nil, aP_some, shO_none, shO_some, Option.isNone_none, Option.isNone_some, Bool.not_true, Bool.not_false]
  refine oB_bind (show natIdx _ _ = some 1 from rfl) ?_
  refine oB_bind (show bAt _ _ = some 48 from rfl) ?_
  refine oB_bind (show natIdx _ _ = some 0 from rfl) ?_
  refine oB_bind (show bAt _ _ = some 48 from rfl) ?_
  refine oB_bind (show natIdx _ _ = some 3 from rfl) ?_
  refine w_wr O1 W1 0 (j := 4) rfl (Nat.le_of_ble_eq_true rfl) rfl fun h2 ρ2 O2 W2 => ?_
  refine oB_bind (show natIdx _ _ = some 2 from rfl) ?_
  refine w_wr O2 W2 0 (j := 3) rfl (Nat.le_of_ble_eq_true rfl) rfl fun h3 ρ3 O3 W3 => ?_
  refine oB_bind (show natIdx _ _ = some 21 from rfl) ?_
  refine oB_bind (show bAt _ _ = some 48 from rfl) ?_
  refine oB_bind (show natIdx _ _ = some 20 from rfl) ?_
  refine oB_bind (show bAt _ _ = some 49 from rfl) ?_
  refine oB_bind (show natIdx _ _ = some 1 from rfl) ?_
  refine w_wr O3 W3 0 (j := 2) rfl (Nat.le_of_ble_eq_true rfl) rfl fun h4 ρ4 O4 W4 => ?_
  refine oB_bind (show natIdx _ _ = some 0 from rfl) ?_
  refine w_wr O4 W4 0 (j := 1) rfl (Nat.le_of_ble_eq_true rfl) rfl fun h5 ρ5 O5 W5 => ?_
  refine r_strconv_formatBase10_20 ?_
  rw [show decide (IntKind.wrap .i64 (((4 : Nat) : Int) - 4) ≥ 2) = false from rfl]
  simp only [oB_some, bC_true, bC_false, vInt_int, vBool_bool, vStr_string, vPtr_pointer, vSl_slice, vMap_map, vFun_func, vAgg_agg, vTup_tuple, vIfc_nil, vIfc_iface, lC_cons, lN_nil, aP_some, shO_none, shO_some, Option.isNone_none, Option.isNone_some, Bool.not_true, Bool.not_false]
  refine r_strconv_formatBase10_25 ?_
  rw [show decide (IntKind.wrap .i64 (((4 : Nat) : Int) - 4) > 0) = false from rfl]
  simp only [oB_some, bC_true, bC_false, vInt_int, vBool_bool, vStr_string, vPtr_pointer, vSl_slice, vMap_map, vFun_func, vAgg_agg, vTup_tuple, vIfc_nil, vIfc_iface, lC_cons, lN_nil, aP_some, shO_none, shO_some, Option.isNone_none, Option.isNone_some, Bool.not_true, Bool.not_false]
  rw [sl24 O5 W5 0 rfl (k := 4) (by omega)]
  simp only [oB_some, bC_true, bC_false, vInt_int, vBool_bool, vStr_string, vPtr_pointer, vSl_slice, vMap_map, vFun_func, vAgg_agg, vTup_tuple, vIfc_nil, vIfc_iface, lC_cons, lN_nil, aP_some, shO_none, shO_some, Option.isNone_none, Option.isNone_some, Bool.not_true, Bool.not_false]
  have key : AW.bytes h5 (some ⟨h.next, 1, none⟩) 4 = some (digS 1000) := by
    rw [show digS 1000 = ⟨⟨[49, 48, 48, 48]⟩⟩ from by decide +kernel]
    refine bytes_of [49, 48, 48, 48] fun j hj => ?_
    obtain ⟨c, _, hc⟩ := W5.get 0 rfl
    rw [O5.rd hc]
    match j, hj with
    | 0, _ => rfl
    | 1, _ => rfl
    | 2, _ => rfl
    | 3, _ => rfl
    | j + 4, hj => simp at hj; omega
  rw [key]
  exact hq _ _ _ O5 (W5.fra0 one)
theorem itoa_ok (O : Own h μ ρ) (T : Vw ρ [] (some ⟨2, 0, none⟩) pow10) {n : Nat} (hn : n ≤ 1000) (hq : RdQ Q ρ (.string (digS n))) : EvQ P f_strconv_Itoa [.int .i64 (n : Int)] h Q := by
  refine r_strconv_Itoa (r_strconv_Itoa_85 ?_)
  have hq2 : RdQ (fun v h => vStr v fun s => vStr (.string s) fun s => Q (.string s) h) ρ (.string (digS n)) := fun h' μ' ρ' O' F' => by
    simp only [oB_some, bC_true, bC_false, vInt_int, vBool_bool, vStr_string, vPtr_pointer, vSl_slice, vMap_map, vFun_func, vAgg_agg, vTup_tuple, vIfc_nil, vIfc_iface, lC_cons, lN_nil, aP_some, shO_none, shO_some, Option.isNone_none, Option.isNone_some, Bool.not_true, Bool.not_false]
    exact hq _ _ _ O' F'
  by_cases h1 : n < 100
  · refine r_strconv_FormatInt ?_
    rw [show ((10 : Int) == 10) = true from rfl]
    simp only [oB_some, bC_true, bC_false, vInt_int, vBool_bool, vStr_string, vPtr_pointer, vSl_slice, vMap_map, vFun_func, vAgg_agg, vTup_tuple, vIfc_nil, vIfc_iface, lC_cons, lN_nil, aP_some, shO_none, shO_some, Option.isNone_none, Option.isNone_some, Bool.not_true, Bool.not_false]
    rw [show decide ((0 : Int) ≤ (n : Int)) = true from decide_eq_true (by omega)]
    simp only [oB_some, bC_true, bC_false, vInt_int, vBool_bool, vStr_string, vPtr_pointer, vSl_slice, vMap_map, vFun_func, vAgg_agg, vTup_tuple, vIfc_nil, vIfc_iface, lC_cons, lN_nil, aP_some, shO_none, shO_some, Option.isNone_none, Option.isNone_some, Bool.not_true, Bool.not_false]
    rw [show decide ((n : Int) < 100) = true from decide_eq_true (by omega)]
    simp only [oB_some, bC_true, bC_false, vInt_int, vBool_bool, vStr_string, vPtr_pointer, vSl_slice, vMap_map, vFun_func, vAgg_agg, vTup_tuple, vIfc_nil, vIfc_iface, lC_cons, lN_nil, aP_some, shO_none, shO_some, Option.isNone_none, Option.isNone_some, Bool.not_true, Bool.not_false]
    refine small_ok h1 ?_
    simp only [oB_some, bC_true, bC_false, vInt_int, vBool_bool, vStr_string, vPtr_pointer, vSl_slice, vMap_map, vFun_func, vAgg_agg, vTup_tuple, vIfc_nil, vIfc_iface, lC_cons, lN_nil, aP_some, shO_none, shO_some, Option.isNone_none, Option.isNone_some, Bool.not_true, Bool.not_false]
    exact hq.now O
  · by_cases h2 : n < 1000
    · exact itoa3 O T (by omega) h2 hq2
    · have : n = 1000 := by omega
      subst this
      exact itoa1000 O T hq2
end Go.Proofs.YtgdkekdedgkglaaDoor
end

section
/- Size, depth, and what may be: the program's. -/
namespace Go.Proofs.YtgdkekdedgkglaaDoor
open Go.Abs Go.Abs.Fo
set_option maxRecDepth 100000
attribute [local irreducible] unitAt EvQ
variable {h : AW} {μ : Paint} {ρ : Store} {Q : Value → AW → Prop}
theorem snocs (pre : F) (op : Int) (args : List Str) (kk : Int) (body : F) : (∀ g : F, (pre.snoc op args kk body).app g = pre.app (.cons op args kk body g)) ∧ (pre.snoc op args kk body).len = pre.len + 1 :=
  ⟨fun g => F.snoc_app pre op args kk body g, F.snoc_len pre op args kk body⟩
theorem size_loop : ∀ (rest : F) {h : AW} {μ : Paint} {ρ : Store} {Q : Value → AW → Prop}, Own h μ ρ → ∀ {pre : F} {a : Option Addr} {c : List Value} {cap n : Nat}, Vw ρ [] a c → Lies (Vw ρ []) (pre.app rest) c → (pre.app rest).len ≤ 140737488355328 → n + rest.more ≤ 1000000000 → rest.size ≤ 1000000000 →
    RdQ Q ρ (.int .i64 ((n + rest.more : Nat) : Int)) → unitAt P f_action_Size 3 [3, 8, 9, 10] [.int .i64 (n : Int), .slice a (pre.app rest).len cap, .int .i64 ((pre.app rest).len : Int), .int .i64 (pre.len : Int)] h Q
  | .nil, h, μ, ρ, Q, O, pre, a, c, cap, n, X, L, hl, hn, hs, hq => by
    refine r_action_Size_3 ?_
    rw [F.app_nil, geI (Nat.le_refl _)]
    simp only [oB_some, bC_true, bC_false, vInt_int, vBool_bool, vStr_string, vPtr_pointer, vSl_slice, vMap_map, vFun_func, vAgg_agg, vTup_tuple, vIfc_nil, vIfc_iface, lC_cons, lN_nil, aP_some, shO_none, shO_some, Option.isNone_none, Option.isNone_some, Bool.not_true, Bool.not_false]
    exact hq.now O
  | .cons op args kk body rest, h, μ, ρ, Q, O, pre, a, c, cap, n, X, L, hl, hn, hs, hq => by
    have hlt : pre.len < (pre.app (.cons op args kk body rest)).len := app_lt
    simp only [F.more, F.size] at hn hs hq
    have hb := F.size_more body
    have hr := F.size_more rest
    refine r_action_Size_3 ?_
    rw [ltI hlt]
    simp only [oB_some, bC_true, bC_false, vInt_int, vBool_bool, vStr_string, vPtr_pointer, vSl_slice, vMap_map, vFun_func, vAgg_agg, vTup_tuple, vIfc_nil, vIfc_iface, lC_cons, lN_nil, aP_some, shO_none, shO_some, Option.isNone_none, Option.isNone_some, Bool.not_true, Bool.not_false]
    refine st_copy O X L rfl rfl fun h1 μ1 ρ1 c1 aa ac ba bc O1 W1 hc1 F1 va la => ?_
    refine w_rd O1 W1 0 (j := 3) rfl rfl ?_
    simp only [oB_some, bC_true, bC_false, vInt_int, vBool_bool, vStr_string, vPtr_pointer, vSl_slice, vMap_map, vFun_func, vAgg_agg, vTup_tuple, vIfc_nil, vIfc_iface, lC_cons, lN_nil, aP_some, shO_none, shO_some, Option.isNone_none, Option.isNone_some, Bool.not_true, Bool.not_false]
    obtain ⟨bcells, v2, l2⟩ := la
    refine r_action_Size ?_
    refine size_loop body O1 (pre := .nil) v2 l2 (show body.len ≤ _ by omega) (show body.len + body.more ≤ _ by omega) (by omega) fun h2 μ2 ρ2 O2 F2 => ?_
    have F12 := F1.trans F2
    simp only [oB_some, bC_true, bC_false, vInt_int, vBool_bool, vStr_string, vPtr_pointer, vSl_slice, vMap_map, vFun_func, vAgg_agg, vTup_tuple, vIfc_nil, vIfc_iface, lC_cons, lN_nil, aP_some, shO_none, shO_some, Option.isNone_none, Option.isNone_some, Bool.not_true, Bool.not_false]
    rw [show IntKind.wrap .i64 ((n : Int) + ((body.len + body.more : Nat) : Int)) = ((n + body.size : Nat) : Int) from by
      rw [wrap_small (n := (n : Int) + ((body.len + body.more : Nat) : Int)) (by omega) (by omega)]; omega, wrapS (by omega)]
    obtain ⟨e3, e4⟩ := snocs pre op args kk body
    have := size_loop rest (Q := Q) O2 (pre := pre.snoc op args kk body) (n := n + body.size) (cap := cap) (X.keep F12) (by rw [e3]; exact L.mono fun _ _ x => x.keep F12) (by rw [e3]; exact hl) (by omega) (by omega) (by
      have := hq.keep F12
      rw [← Nat.add_assoc] at this; exact this)
    rw [e3, e4] at this
    exact this
theorem size_ok (O : Own h μ ρ) {f : F} {a : Option Addr} {cap : Nat} (X : Ly ρ f a) (hs : f.size ≤ 1000000000) (hq : RdQ Q ρ (.int .i64 (f.size : Int))) : EvQ P f_action_Size [.slice a f.len cap] h Q := by
  obtain ⟨c, v, l⟩ := X
  have := F.size_more f
  exact r_action_Size (size_loop f O (pre := .nil) v l (show f.len ≤ _ by omega) (show f.len + f.more ≤ _ by omega) hs (by rw [F.size_more] at hq; exact hq))
theorem imax (a b : Nat) : (if ((b : Nat) : Int) > (a : Int) then ((b : Nat) : Int) else (a : Int)) = ((max a b : Nat) : Int) := by
  split <;> omega
theorem deep_loop : ∀ (rest : F) {h : AW} {μ : Paint} {ρ : Store} {Q : Value → AW → Prop}, Own h μ ρ → ∀ {pre : F} {a : Option Addr} {c : List Value} {cap n : Nat}, Vw ρ [] a c → Lies (Vw ρ []) (pre.app rest) c → (pre.app rest).len ≤ 140737488355328 → n ≤ 1000000000 → rest.size ≤ 1000000000 →
    RdQ Q ρ (.int .i64 ((max n rest.deep : Nat) : Int)) → unitAt P f_action_Deep 3 [3, 6, 7, 8] [.int .i64 (n : Int), .slice a (pre.app rest).len cap, .int .i64 ((pre.app rest).len : Int), .int .i64 (pre.len : Int)] h Q
  | .nil, h, μ, ρ, Q, O, pre, a, c, cap, n, X, L, hl, hn, hs, hq => by
    refine r_action_Deep_3 ?_
    rw [F.app_nil, geI (Nat.le_refl _)]
    simp only [oB_some, bC_true, bC_false, vInt_int, vBool_bool, vStr_string, vPtr_pointer, vSl_slice, vMap_map, vFun_func, vAgg_agg, vTup_tuple, vIfc_nil, vIfc_iface, lC_cons, lN_nil, aP_some, shO_none, shO_some, Option.isNone_none, Option.isNone_some, Bool.not_true, Bool.not_false]
    simp only [F.deep, Nat.max_zero] at hq
    exact hq.now O
  | .cons op args kk body rest, h, μ, ρ, Q, O, pre, a, c, cap, n, X, L, hl, hn, hs, hq => by
    have hlt : pre.len < (pre.app (.cons op args kk body rest)).len := app_lt
    simp only [F.deep, F.size] at hs hq
    have hb := F.size_more body
    have hd := F.deep_size body
    have hr := F.size_more rest
    obtain ⟨e3, e4⟩ := snocs pre op args kk body
    refine r_action_Deep_3 ?_
    rw [ltI hlt]
    simp only [oB_some, bC_true, bC_false, vInt_int, vBool_bool, vStr_string, vPtr_pointer, vSl_slice, vMap_map, vFun_func, vAgg_agg, vTup_tuple, vIfc_nil, vIfc_iface, lC_cons, lN_nil, aP_some, shO_none, shO_some, Option.isNone_none, Option.isNone_some, Bool.not_true, Bool.not_false]
    refine st_copy O X L rfl rfl fun h1 μ1 ρ1 c1 aa ac ba bc O1 W1 hc1 F1 va la => ?_
    refine w_rd O1 W1 0 (j := 0) rfl rfl ?_
    simp only [oB_some, bC_true, bC_false, vInt_int, vBool_bool, vStr_string, vPtr_pointer, vSl_slice, vMap_map, vFun_func, vAgg_agg, vTup_tuple, vIfc_nil, vIfc_iface, lC_cons, lN_nil, aP_some, shO_none, shO_some, Option.isNone_none, Option.isNone_some, Bool.not_true, Bool.not_false]
    refine opens_ok ?_
    simp only [oB_some, bC_true, bC_false, vInt_int, vBool_bool, vStr_string, vPtr_pointer, vSl_slice, vMap_map, vFun_func, vAgg_agg, vTup_tuple, vIfc_nil, vIfc_iface, lC_cons, lN_nil, aP_some, shO_none, shO_some, Option.isNone_none, Option.isNone_some, Bool.not_true, Bool.not_false]
    refine bC_iff (fun e => ?_) (fun e => ?_)
    · rw [if_pos e] at hq
      refine w_rd O1 W1 0 (j := 3) rfl rfl ?_
      simp only [oB_some, bC_true, bC_false, vInt_int, vBool_bool, vStr_string, vPtr_pointer, vSl_slice, vMap_map, vFun_func, vAgg_agg, vTup_tuple, vIfc_nil, vIfc_iface, lC_cons, lN_nil, aP_some, shO_none, shO_some, Option.isNone_none, Option.isNone_some, Bool.not_true, Bool.not_false]
      obtain ⟨bcells, v2, l2⟩ := la
      refine r_action_Deep ?_
      refine deep_loop body O1 (pre := .nil) (n := 0) v2 l2 (show body.len ≤ _ by omega) (by omega) (by omega) fun h2 μ2 ρ2 O2 F2 => ?_
      have F12 := F1.trans F2
      rw [Nat.zero_max]
      simp only [oB_some, bC_true, bC_false, vInt_int, vBool_bool, vStr_string, vPtr_pointer, vSl_slice, vMap_map, vFun_func, vAgg_agg, vTup_tuple, vIfc_nil, vIfc_iface, lC_cons, lN_nil, aP_some, shO_none, shO_some, Option.isNone_none, Option.isNone_some, Bool.not_true, Bool.not_false]
      rw [show IntKind.wrap .i64 (1 + (body.deep : Int)) = ((1 + body.deep : Nat) : Int) from by rw [wrap_small (n := 1 + (body.deep : Int)) (by omega) (by omega)]; omega, imax, wrapS (by omega)]
      have := deep_loop rest (Q := Q) O2 (pre := pre.snoc op args kk body) (n := max n (1 + body.deep)) (cap := cap) (X.keep F12) (by rw [e3]; exact L.mono fun _ _ x => x.keep F12) (by rw [e3]; exact hl) (by omega) (by omega) (by
        have := hq.keep F12
        rw [← Nat.max_assoc] at this; exact this)
      rw [e3, e4] at this
      exact this
    · rw [if_neg (by simp [e]), Nat.zero_max] at hq
      rw [wrapS (by omega)]
      have := deep_loop rest (Q := Q) O1 (pre := pre.snoc op args kk body) (n := n) (cap := cap) (X.keep F1) (by rw [e3]; exact L.mono fun _ _ x => x.keep F1) (by rw [e3]; exact hl) hn (by omega) (hq.keep F1)
      rw [e3, e4] at this
      exact this
theorem deep_ok (O : Own h μ ρ) {f : F} {a : Option Addr} {cap : Nat} (X : Ly ρ f a) (hs : f.size ≤ 1000000000) (hq : RdQ Q ρ (.int .i64 (f.deep : Int))) : EvQ P f_action_Deep [.slice a f.len cap] h Q := by
  obtain ⟨c, v, l⟩ := X
  have := F.size_more f
  exact r_action_Deep (deep_loop f O (pre := .nil) (n := 0) v l (show f.len ≤ _ by omega) (by omega) hs (by rw [Nat.zero_max]; exact hq))
theorem right_loop : ∀ (rest : F) {h : AW} {μ : Paint} {ρ : Store} {Q : Value → AW → Prop}, Own h μ ρ → ∀ {pre : F} {a : Option Addr} {c : List Value} {cap d : Nat}, Vw ρ [] a c → Lies (Vw ρ []) (pre.app rest) c → (pre.app rest).len ≤ 140737488355328 → d + rest.size ≤ 1000000000 → rest.size ≤ 1000000000 →
    RdQ Q ρ (.bool (rest.right d)) → unitAt P f_action_right 2 [1, 7, 8, 9] [.int .i64 (d : Int), .slice a (pre.app rest).len cap, .int .i64 ((pre.app rest).len : Int), .int .i64 (pre.len : Int)] h Q
  | .nil, h, μ, ρ, Q, O, pre, a, c, cap, n, X, L, hl, hn, hs, hq => by
    refine r_action_right_2 ?_
    rw [F.app_nil, geI (Nat.le_refl _)]
    simp only [oB_some, bC_true, bC_false, vInt_int, vBool_bool, vStr_string, vPtr_pointer, vSl_slice, vMap_map, vFun_func, vAgg_agg, vTup_tuple, vIfc_nil, vIfc_iface, lC_cons, lN_nil, aP_some, shO_none, shO_some, Option.isNone_none, Option.isNone_some, Bool.not_true, Bool.not_false]
    exact hq.now O
  | .cons op args kk body rest, hb, μ, ρb, Q, Ob, pre, a, c, cap, d, X, L, hl, hn, hs, hq => by
    have hlt : pre.len < (pre.app (.cons op args kk body rest)).len := app_lt
    simp only [F.size] at hs hn
    have hbs := F.size_more body
    have hrs := F.size_more rest
    obtain ⟨e3, e4⟩ := snocs pre op args kk body
    have no : ∀ {h' : AW} {μ' : Paint} {ρ' : Store}, Own h' μ' ρ' → Fra [] ρb ρ' → F.right (.cons op args kk body rest) d = false → Q (.bool false) h' := fun O' F' e => by
      have := hq _ _ _ O' F'
      rw [e] at this; exact this
    refine r_action_right_2 ?_
    rw [ltI hlt]
    simp only [oB_some, bC_true, bC_false, vInt_int, vBool_bool, vStr_string, vPtr_pointer, vSl_slice, vMap_map, vFun_func, vAgg_agg, vTup_tuple, vIfc_nil, vIfc_iface, lC_cons, lN_nil, aP_some, shO_none, shO_some, Option.isNone_none, Option.isNone_some, Bool.not_true, Bool.not_false]
    refine st_copy Ob X L rfl rfl fun h μ ρ c1 aa ac ba bc O W hc1 F1 va la => ?_
    repeat (first | refine ⟨rfl, ?_⟩ | refine ⟨trivial, ?_⟩ | simp only [oB_some, bC_true, bC_false, vInt_int, vBool_bool, vStr_string, vPtr_pointer, vSl_slice, vMap_map, vFun_func, vAgg_agg, vTup_tuple, vIfc_nil, vIfc_iface, lC_cons, lN_nil, aP_some, shO_none, shO_some, Option.isNone_none, Option.isNone_some, Bool.not_true, Bool.not_false] | refine w_rd (by assumption) (by assumption) 0 (by rfl) (by rfl) ?_ | refine w_wrL (by assumption) (by assumption) 0 (by rfl) (Nat.le_of_ble_eq_true (by rfl)) (by rfl) fun h ρz O W => ?_ | refine w_wr (by assumption) (by assumption) 0 (by rfl) (Nat.le_of_ble_eq_true (by rfl)) (by rfl) fun h ρz O W => ?_)
    refine bC_iff (fun e => no O F1 ?_) (fun x1 => ?_)
    · have e := of_decide_eq_true e
      simp only [F.right, F.fine, decide_eq_false (show ¬ 1 ≤ op by omega), Bool.false_and]
    have x1 := of_decide_eq_false x1
    repeat (first | refine ⟨rfl, ?_⟩ | refine ⟨trivial, ?_⟩ | simp only [oB_some, bC_true, bC_false, vInt_int, vBool_bool, vStr_string, vPtr_pointer, vSl_slice, vMap_map, vFun_func, vAgg_agg, vTup_tuple, vIfc_nil, vIfc_iface, lC_cons, lN_nil, aP_some, shO_none, shO_some, Option.isNone_none, Option.isNone_some, Bool.not_true, Bool.not_false] | refine w_rd (by assumption) (by assumption) 0 (by rfl) (by rfl) ?_ | refine w_wrL (by assumption) (by assumption) 0 (by rfl) (Nat.le_of_ble_eq_true (by rfl)) (by rfl) fun h ρz O W => ?_ | refine w_wr (by assumption) (by assumption) 0 (by rfl) (Nat.le_of_ble_eq_true (by rfl)) (by rfl) fun h ρz O W => ?_)
    refine bC_iff (fun e => no O F1 ?_) (fun x2 => ?_)
    · have e := of_decide_eq_true e
      simp only [F.right, F.fine, decide_eq_false (show ¬ op ≤ 12 by omega), Bool.false_and, Bool.and_false]
    have x2 := of_decide_eq_false x2
    repeat (first | refine ⟨rfl, ?_⟩ | refine ⟨trivial, ?_⟩ | simp only [oB_some, bC_true, bC_false, vInt_int, vBool_bool, vStr_string, vPtr_pointer, vSl_slice, vMap_map, vFun_func, vAgg_agg, vTup_tuple, vIfc_nil, vIfc_iface, lC_cons, lN_nil, aP_some, shO_none, shO_some, Option.isNone_none, Option.isNone_some, Bool.not_true, Bool.not_false] | refine w_rd (by assumption) (by assumption) 0 (by rfl) (by rfl) ?_ | refine w_wrL (by assumption) (by assumption) 0 (by rfl) (Nat.le_of_ble_eq_true (by rfl)) (by rfl) fun h ρz O W => ?_ | refine w_wr (by assumption) (by assumption) 0 (by rfl) (Nat.le_of_ble_eq_true (by rfl)) (by rfl) fun h ρz O W => ?_)
    refine fits_ok ?_
    simp only [oB_some, bC_true, bC_false, vInt_int, vBool_bool, vStr_string, vPtr_pointer, vSl_slice, vMap_map, vFun_func, vAgg_agg, vTup_tuple, vIfc_nil, vIfc_iface, lC_cons, lN_nil, aP_some, shO_none, shO_some, Option.isNone_none, Option.isNone_some, Bool.not_true, Bool.not_false]
    refine bC_iff (fun e => no O F1 ?_) (fun x3 => ?_)
    · simp only [F.right, F.fine, nb e, Bool.false_and, Bool.and_false]
    have x3 := nb' x3
    repeat (first | refine ⟨rfl, ?_⟩ | refine ⟨trivial, ?_⟩ | simp only [oB_some, bC_true, bC_false, vInt_int, vBool_bool, vStr_string, vPtr_pointer, vSl_slice, vMap_map, vFun_func, vAgg_agg, vTup_tuple, vIfc_nil, vIfc_iface, lC_cons, lN_nil, aP_some, shO_none, shO_some, Option.isNone_none, Option.isNone_some, Bool.not_true, Bool.not_false] | refine w_rd (by assumption) (by assumption) 0 (by rfl) (by rfl) ?_ | refine w_wrL (by assumption) (by assumption) 0 (by rfl) (Nat.le_of_ble_eq_true (by rfl)) (by rfl) fun h ρz O W => ?_ | refine w_wr (by assumption) (by assumption) 0 (by rfl) (Nat.le_of_ble_eq_true (by rfl)) (by rfl) fun h ρz O W => ?_)
    refine bC_iff (fun e => no O F1 ?_) (fun x4 => ?_)
    · have e := of_decide_eq_true e
      simp only [F.right, F.fine, decide_eq_false (show ¬ 0 ≤ kk by omega), Bool.false_and, Bool.and_false]
    have x4 := of_decide_eq_false x4
    repeat (first | refine ⟨rfl, ?_⟩ | refine ⟨trivial, ?_⟩ | simp only [oB_some, bC_true, bC_false, vInt_int, vBool_bool, vStr_string, vPtr_pointer, vSl_slice, vMap_map, vFun_func, vAgg_agg, vTup_tuple, vIfc_nil, vIfc_iface, lC_cons, lN_nil, aP_some, shO_none, shO_some, Option.isNone_none, Option.isNone_some, Bool.not_true, Bool.not_false] | refine w_rd (by assumption) (by assumption) 0 (by rfl) (by rfl) ?_ | refine w_wrL (by assumption) (by assumption) 0 (by rfl) (Nat.le_of_ble_eq_true (by rfl)) (by rfl) fun h ρz O W => ?_ | refine w_wr (by assumption) (by assumption) 0 (by rfl) (Nat.le_of_ble_eq_true (by rfl)) (by rfl) fun h ρz O W => ?_)
    refine bC_iff (fun e => no O F1 ?_) (fun x5 => ?_)
    · have e := of_decide_eq_true e
      simp only [F.right, F.fine, decide_eq_false (show ¬ kk ≤ 1000 by omega), Bool.false_and, Bool.and_false]
    have x5 := of_decide_eq_false x5
    have tl : F.fine op args.length kk = true → (opensM op = true → d ≠ 8) → (opensM op = false → body.len = 0) →
        oB (AW.rd h (AW.next hb) 3) fun v65 => vSl v65 fun p66 m67 m68 => EvQ P f_action_right [.slice p66 m67 m68, .int .i64 (IntKind.wrap .i64 ((d : Int) + 1))] h fun v69 h70 => vBool v69 fun b71 => bC (!b71) (Q (.bool false) h70)
          (unitAt P f_action_right 2 [1, 7, 8, 9] [.int .i64 (d : Int), .slice a (pre.app (.cons op args kk body rest)).len cap, .int .i64 ((pre.app (.cons op args kk body rest)).len : Int), .int .i64 (IntKind.wrap .i64 ((pre.len : Int) + 1))] h70 Q) := by
      intro hf h8 h0
      have f2 : (!(opensM op && decide (d = 8))) = true := by
        cases ho : opensM op with
        | true => simp [h8 ho]
        | false => rfl
      have f3 : (opensM op || decide (body.len = 0)) = true := by
        cases ho : opensM op with
        | true => rfl
        | false => simp [h0 ho]
      refine w_rd O W 0 (j := 3) rfl rfl ?_
      simp only [oB_some, bC_true, bC_false, vInt_int, vBool_bool, vStr_string, vPtr_pointer, vSl_slice, vMap_map, vFun_func, vAgg_agg, vTup_tuple, vIfc_nil, vIfc_iface, lC_cons, lN_nil, aP_some, shO_none, shO_some, Option.isNone_none, Option.isNone_some, Bool.not_true, Bool.not_false]
      obtain ⟨bcells, v2, l2⟩ := la
      rw [wrapS (j := d) (by omega)]
      refine r_action_right ?_
      refine right_loop body O (pre := .nil) v2 l2 (show body.len ≤ _ by omega) (by omega) (by omega) fun h2 μ2 ρ2 O2 F2 => ?_
      have F12 := F1.trans F2
      simp only [oB_some, bC_true, bC_false, vInt_int, vBool_bool, vStr_string, vPtr_pointer, vSl_slice, vMap_map, vFun_func, vAgg_agg, vTup_tuple, vIfc_nil, vIfc_iface, lC_cons, lN_nil, aP_some, shO_none, shO_some, Option.isNone_none, Option.isNone_some, Bool.not_true, Bool.not_false]
      refine bC_iff (fun e => no O2 F12 ?_) (fun e => ?_)
      · simp only [F.right, nb e, Bool.false_and, Bool.and_false]
      have e := nb' e
      rw [wrapS (by omega)]
      have := right_loop rest (Q := Q) O2 (pre := pre.snoc op args kk body) (d := d) (cap := cap) (X.keep F12) (by rw [e3]; exact L.mono fun _ _ x => x.keep F12) (by rw [e3]; exact hl) (by omega) (by omega) (by
        have := hq.keep F12
        simp only [F.right, hf, f2, f3, e, Bool.true_and] at this
        exact this)
      rw [e3, e4] at this
      exact this
    have after : F.fine op args.length kk = true →
        oB (AW.rd h (AW.next hb) 0) fun v44 => vInt IntKind.i64 v44 fun n45 => EvQ P f_action_opens [Value.int IntKind.i64 n45] h fun v46 h47 => vBool v46 fun b48 => bC b48 (bC ((d : Int) == 8) (Q
        (Value.bool false) h47) (oB (AW.rd h47 (AW.next hb) 0) fun v49 => vInt IntKind.i64 v49 fun n50 => EvQ P f_action_opens [Value.int IntKind.i64 n50] h47 fun v51 h52 => vBool v51 fun
        b53 => bC (!b53) (oB (AW.rd h52 (AW.next hb) 3) fun v54 => vSl v54 fun p55 m56 m57 => bC (decide ((↑m56 : Int) > 0)) (Q (Value.bool false) h52) (oB (AW.rd h52 (AW.next hb) 3) fun v58
        => vSl v58 fun p59 m60 m61 => EvQ P f_action_right [Value.slice p59 m60 m61, Value.int IntKind.i64 (IntKind.wrap IntKind.i64 ((d : Int) + 1))] h52 fun v62 h63 => vBool v62 fun b64 =>
        bC (!b64) (Q (Value.bool false) h63) (unitAt P f_action_right 2 [1, 7, 8, 9] [Value.int IntKind.i64 (d : Int), Value.slice a (pre.app (.cons op args kk body rest)).len cap, Value.int
        IntKind.i64 ((pre.app (.cons op args kk body rest)).len : Int), Value.int IntKind.i64 (IntKind.wrap IntKind.i64 ((pre.len : Int) + 1))] h63 Q))) (oB (AW.rd h52 (AW.next hb) 3) fun
        v65 => vSl v65 fun p66 m67 m68 => EvQ P f_action_right [Value.slice p66 m67 m68, Value.int IntKind.i64 (IntKind.wrap IntKind.i64 ((d : Int) + 1))] h52 fun v69 h70 => vBool v69 fun
        b71 => bC (!b71) (Q (Value.bool false) h70) (unitAt P f_action_right 2 [1, 7, 8, 9] [Value.int IntKind.i64 (d : Int), Value.slice a (pre.app (.cons op args kk body rest)).len cap,
        Value.int IntKind.i64 ((pre.app (.cons op args kk body rest)).len : Int), Value.int IntKind.i64 (IntKind.wrap IntKind.i64 ((pre.len : Int) + 1))] h70 Q)))) (oB (AW.rd h47 (AW.next
        hb) 0) fun v72 => vInt IntKind.i64 v72 fun n73 => EvQ P f_action_opens [Value.int IntKind.i64 n73] h47 fun v74 h75 => vBool v74 fun b76 => bC (!b76) (oB (AW.rd h75 (AW.next hb) 3)
        fun v77 => vSl v77 fun p78 m79 m80 => bC (decide ((↑m79 : Int) > 0)) (Q (Value.bool false) h75) (oB (AW.rd h75 (AW.next hb) 3) fun v81 => vSl v81 fun p82 m83 m84 => EvQ P
        f_action_right [Value.slice p82 m83 m84, Value.int IntKind.i64 (IntKind.wrap IntKind.i64 ((d : Int) + 1))] h75 fun v85 h86 => vBool v85 fun b87 => bC (!b87) (Q (Value.bool false)
        h86) (unitAt P f_action_right 2 [1, 7, 8, 9] [Value.int IntKind.i64 (d : Int), Value.slice a (pre.app (.cons op args kk body rest)).len cap, Value.int IntKind.i64 ((pre.app (.cons op
        args kk body rest)).len : Int), Value.int IntKind.i64 (IntKind.wrap IntKind.i64 ((pre.len : Int) + 1))] h86 Q))) (oB (AW.rd h75 (AW.next hb) 3) fun v88 => vSl v88 fun p89 m90 m91 =>
        EvQ P f_action_right [Value.slice p89 m90 m91, Value.int IntKind.i64 (IntKind.wrap IntKind.i64 ((d : Int) + 1))] h75 fun v92 h93 => vBool v92 fun b94 => bC (!b94) (Q (Value.bool
        false) h93) (unitAt P f_action_right 2 [1, 7, 8, 9] [Value.int IntKind.i64 (d : Int), Value.slice a (pre.app (.cons op args kk body rest)).len cap, Value.int IntKind.i64 ((pre.app
        (.cons op args kk body rest)).len : Int), Value.int IntKind.i64 (IntKind.wrap IntKind.i64 ((pre.len : Int) + 1))] h93 Q))) := by
      intro hf
      refine w_rd O W 0 (j := 0) rfl rfl ?_
      simp only [oB_some, bC_true, bC_false, vInt_int, vBool_bool, vStr_string, vPtr_pointer, vSl_slice, vMap_map, vFun_func, vAgg_agg, vTup_tuple, vIfc_nil, vIfc_iface, lC_cons, lN_nil, aP_some, shO_none, shO_some, Option.isNone_none, Option.isNone_some, Bool.not_true, Bool.not_false]
      refine opens_ok ?_
      simp only [oB_some, bC_true, bC_false, vInt_int, vBool_bool, vStr_string, vPtr_pointer, vSl_slice, vMap_map, vFun_func, vAgg_agg, vTup_tuple, vIfc_nil, vIfc_iface, lC_cons, lN_nil, aP_some, shO_none, shO_some, Option.isNone_none, Option.isNone_some, Bool.not_true, Bool.not_false]
      refine bC_iff (fun ho => ?_) (fun ho => ?_)
      · refine bC_iff (fun e => no O F1 ?_) (fun e => ?_)
        · have e : d = 8 := by have := eqI e; omega
          simp only [F.right, ho, e, decide_true, Bool.and_true, Bool.not_true, Bool.and_false, Bool.false_and]
        have e : d ≠ 8 := by have := neI e; omega
        refine w_rd O W 0 (j := 0) rfl rfl ?_
        simp only [oB_some, bC_true, bC_false, vInt_int, vBool_bool, vStr_string, vPtr_pointer, vSl_slice, vMap_map, vFun_func, vAgg_agg, vTup_tuple, vIfc_nil, vIfc_iface, lC_cons, lN_nil, aP_some, shO_none, shO_some, Option.isNone_none, Option.isNone_some, Bool.not_true, Bool.not_false]
        refine opens_ok ?_
        rw [ho]
        simp only [oB_some, bC_true, bC_false, vInt_int, vBool_bool, vStr_string, vPtr_pointer, vSl_slice, vMap_map, vFun_func, vAgg_agg, vTup_tuple, vIfc_nil, vIfc_iface, lC_cons, lN_nil, aP_some, shO_none, shO_some, Option.isNone_none, Option.isNone_some, Bool.not_true, Bool.not_false]
        exact tl hf (fun _ => e) (fun x => by rw [ho] at x; cases x)
      · refine w_rd O W 0 (j := 0) rfl rfl ?_
        simp only [oB_some, bC_true, bC_false, vInt_int, vBool_bool, vStr_string, vPtr_pointer, vSl_slice, vMap_map, vFun_func, vAgg_agg, vTup_tuple, vIfc_nil, vIfc_iface, lC_cons, lN_nil, aP_some, shO_none, shO_some, Option.isNone_none, Option.isNone_some, Bool.not_true, Bool.not_false]
        refine opens_ok ?_
        rw [ho]
        simp only [oB_some, bC_true, bC_false, vInt_int, vBool_bool, vStr_string, vPtr_pointer, vSl_slice, vMap_map, vFun_func, vAgg_agg, vTup_tuple, vIfc_nil, vIfc_iface, lC_cons, lN_nil, aP_some, shO_none, shO_some, Option.isNone_none, Option.isNone_some, Bool.not_true, Bool.not_false]
        refine w_rd O W 0 (j := 3) rfl rfl ?_
        simp only [oB_some, bC_true, bC_false, vInt_int, vBool_bool, vStr_string, vPtr_pointer, vSl_slice, vMap_map, vFun_func, vAgg_agg, vTup_tuple, vIfc_nil, vIfc_iface, lC_cons, lN_nil, aP_some, shO_none, shO_some, Option.isNone_none, Option.isNone_some, Bool.not_true, Bool.not_false]
        refine bC_iff (fun e => no O F1 ?_) (fun e => ?_)
        · have e : body.len ≠ 0 := by have := of_decide_eq_true e; omega
          simp only [F.right, ho, decide_eq_false e, Bool.or_false, Bool.and_false, Bool.false_and]
        have e : body.len = 0 := by have := of_decide_eq_false e; omega
        exact tl hf (fun x => by rw [ho] at x; cases x) (fun _ => e)
    repeat (first | refine ⟨rfl, ?_⟩ | refine ⟨trivial, ?_⟩ | simp only [oB_some, bC_true, bC_false, vInt_int, vBool_bool, vStr_string, vPtr_pointer, vSl_slice, vMap_map, vFun_func, vAgg_agg, vTup_tuple, vIfc_nil, vIfc_iface, lC_cons, lN_nil, aP_some, shO_none, shO_some, Option.isNone_none, Option.isNone_some, Bool.not_true, Bool.not_false] | refine w_rd (by assumption) (by assumption) 0 (by rfl) (by rfl) ?_ | refine w_wrL (by assumption) (by assumption) 0 (by rfl) (Nat.le_of_ble_eq_true (by rfl)) (by rfl) fun h ρz O W => ?_ | refine w_wr (by assumption) (by assumption) 0 (by rfl) (Nat.le_of_ble_eq_true (by rfl)) (by rfl) fun h ρz O W => ?_)
    have base : (decide (1 ≤ op) && decide (op ≤ 12) && fitsM op args.length && decide (0 ≤ kk) && decide (kk ≤ 1000)) = true := by
      rw [decide_eq_true (show 1 ≤ op by omega), decide_eq_true (show op ≤ 12 by omega), x3, decide_eq_true (show 0 ≤ kk by omega), decide_eq_true (show kk ≤ 1000 by omega)]; rfl
    refine bC_iff (fun e => ?_) (fun e => ?_)
    · have e := of_decide_eq_true e
      repeat (first | refine ⟨rfl, ?_⟩ | refine ⟨trivial, ?_⟩ | simp only [oB_some, bC_true, bC_false, vInt_int, vBool_bool, vStr_string, vPtr_pointer, vSl_slice, vMap_map, vFun_func, vAgg_agg, vTup_tuple, vIfc_nil, vIfc_iface, lC_cons, lN_nil, aP_some, shO_none, shO_some, Option.isNone_none, Option.isNone_some, Bool.not_true, Bool.not_false] | refine w_rd (by assumption) (by assumption) 0 (by rfl) (by rfl) ?_ | refine w_wrL (by assumption) (by assumption) 0 (by rfl) (Nat.le_of_ble_eq_true (by rfl)) (by rfl) fun h ρz O W => ?_ | refine w_wr (by assumption) (by assumption) 0 (by rfl) (Nat.le_of_ble_eq_true (by rfl)) (by rfl) fun h ρz O W => ?_)
      refine bC_iff (fun e2 => no O F1 ?_) (fun e2 => ?_)
      · have e2 : op ≠ 10 := by simpa using e2
        simp only [F.right, F.fine, decide_eq_false (show ¬ kk = 0 by omega), decide_eq_false e2, Bool.or_self, Bool.and_false, Bool.false_and]
      have e2 : op = 10 := by simpa using e2
      exact after (by unfold F.fine; rw [base, decide_eq_true e2, Bool.or_true]; rfl)
    · have e := of_decide_eq_false e
      exact after (by unfold F.fine; rw [base, decide_eq_true (show kk = 0 by omega), Bool.true_or]; rfl)
theorem right_ok (O : Own h μ ρ) {f : F} {a : Option Addr} {cap : Nat} (X : Ly ρ f a) (hs : f.size ≤ 1000000000) (hq : RdQ Q ρ (.bool (f.right 0))) : EvQ P f_action_right [.slice a f.len cap, .int .i64 0] h Q := by
  obtain ⟨c, v, l⟩ := X
  have := F.size_more f
  exact r_action_right (right_loop f O (pre := .nil) (d := 0) v l (show f.len ≤ _ by omega) (by omega) hs hq)
theorem may_ok (O : Own h μ ρ) {f : F} {a : Option Addr} {cap : Nat} (X : Ly ρ f a) (hs : f.size ≤ 1000000000) (hq : RdQ Q ρ (.bool f.may)) : EvQ P f_action_May [.slice a f.len cap] h Q := by
  refine r_action_May ?_
  refine right_ok O X hs fun h2 μ2 ρ2 O2 F2 => ?_
  simp only [oB_some, bC_true, bC_false, vInt_int, vBool_bool, vStr_string, vPtr_pointer, vSl_slice, vMap_map, vFun_func, vAgg_agg, vTup_tuple, vIfc_nil, vIfc_iface, lC_cons, lN_nil, aP_some, shO_none, shO_some, Option.isNone_none, Option.isNone_some, Bool.not_true, Bool.not_false]
  refine bC_iff (fun e => ?_) (fun e => ?_)
  · refine size_ok O2 (X.keep F2) hs fun h3 μ3 ρ3 O3 F3 => ?_
    simp only [oB_some, bC_true, bC_false, vInt_int, vBool_bool, vStr_string, vPtr_pointer, vSl_slice, vMap_map, vFun_func, vAgg_agg, vTup_tuple, vIfc_nil, vIfc_iface, lC_cons, lN_nil, aP_some, shO_none, shO_some, Option.isNone_none, Option.isNone_some, Bool.not_true, Bool.not_false]
    have := hq _ _ _ O3 (F2.trans F3)
    unfold F.may at this
    rw [e, Bool.true_and] at this
    rw [show decide ((f.size : Int) ≤ 256) = decide (f.size ≤ 256) from decide_eq_decide.2 (by omega)]
    exact this
  · have := hq _ _ _ O2 F2
    unfold F.may at this
    rw [e, Bool.false_and] at this
    exact this
end Go.Proofs.YtgdkekdedgkglaaDoor
end

section
/- Statements as lines: the program's walk. -/
namespace Go.Proofs.YtgdkekdedgkglaaDoor
open Go.Abs Go.Abs.Fo
set_option maxRecDepth 100000
attribute [local irreducible] unitAt EvQ
variable {h : AW} {μ : Paint} {ρ ρ' : Store} {Q : Value → AW → Prop}
/-- No statement has too many words. -/
def Slim : F → Prop
  | .nil => True
  | .cons _ args _ b r => args.length ≤ 262144 ∧ Slim b ∧ Slim r
theorem slim_full : ∀ {f : F}, full f ≤ 262144 → Slim f
  | .nil, _ => trivial
  | .cons _ args _ b r, h => by
    simp only [full] at h
    have : args.length ≤ (args.map fun s => 1 + s.size).sum := by
      have := sum_len (l := args.map fun s => 1 + s.size) (by intro a ha; obtain ⟨l, _, rfl⟩ := List.mem_map.1 ha; omega)
      simpa using this
    exact ⟨by omega, slim_full (by omega), slim_full (by omega)⟩
theorem len_lines : ∀ f : F, f.len ≤ f.lines.length
  | .nil => Nat.le_refl _
  | .cons _ _ _ b r => by
    have := len_lines r
    simp only [F.len, F.lines, List.length_cons, List.length_append]
    omega
/-- A statement, copied; the place is seen from before. -/
theorem st_copyB (O : Own h μ ρ') (F0 : Fra [] ρ ρ') {pre rest body : F} {op kk : Int} {args : List Str} {a : Option Addr} {c : List Value} {N : Nat} {z : Int} (X : Vw ρ [] a c) (L : Lies (Vw ρ []) (pre.app (.cons op args kk body rest)) c)
    {ρ1 : Store} {ns : List Nat} {rs : List Res} (W : Pcs ρ1 ρ' ns rs)
    (hz : z = pre.len) (hN : N = (pre.app (.cons op args kk body rest)).len) {f : AW → Prop}
    (H : ∀ h' μ' ρ2 cc aa ac ba bc, Own h' μ' ρ2 → Pcs ρ1 ρ2 (cc :: ns) (.var h.next [.int .i64 op, .slice aa args.length ac, .int .i64 kk, .slice ba body.len bc] :: rs) → ρ1 cc = none → Fra [] ρ' ρ2 → Vw ρ [] aa (strs args) → Ly ρ body ba → f h') :
    aP a fun m7 m8 => oB (natIdx z N) fun m9 => oB (AW.rd h m7 (m8 + m9 * 4)) fun v10 => vInt .i64 v10 fun n11 => oB (AW.rd h m7 (m8 + m9 * 4 + 1)) fun v12 => vSl v12 fun p13 m14 m15 => oB (AW.rd h m7 (m8 + m9 * 4 + 1 + 1)) fun v16 => vInt .i64 v16 fun n17 =>
      oB (AW.rd h m7 (m8 + m9 * 4 + 1 + 1 + 1)) fun v18 => vSl v18 fun p19 m20 m21 => oB (AW.wrL (AW.addVar h [.int .i64 0, .slice none 0 0, .int .i64 0, .slice none 0 0]) (AW.next h) 0 [.int .i64 n11, .slice p13 m14 m15, .int .i64 n17, .slice p19 m20 m21]) f := by
  obtain ⟨aa, ac, ba, bc, bcells, v1, v2, v3, c0, c1, c2, c3⟩ := lies_at L
  refine ((X.keep F0).sl O).ix (sz := 4) hz (by rw [hN]; exact L.len) (by omega) (by rw [hN]; exact app_lt) fun i off ea hr => ?_
  have r0 := hr 0 (by omega)
  rw [Nat.add_zero, Nat.add_zero] at r0
  refine oB_bind (r0.trans c0) ?_
  simp only [vInt_int]
  refine oB_bind ((hr 1 (by omega)).trans c1) ?_
  simp only [vSl_slice]
  refine oB_bind ((hr 2 (by omega)).trans c2) ?_
  simp only [vInt_int]
  refine oB_bind ((hr 3 (by omega)).trans c3) ?_
  simp only [vSl_slice]
  refine w_copyF O W rfl rfl rfl fun h1 μ1 ρ1 cc O1 W1 hc F1 => ?_
  exact H h1 μ1 ρ1 cc aa ac ba bc O1 W1 hc F1 v1 ⟨_, v2, v3⟩
/-- What the loop over some statements does. -/
def LL (rest : F) : Prop := ∀ ⦃ρ : Store⦄ ⦃cm : Nat⦄, Vw ρ [] (some ⟨2, 0, none⟩) pow10 → ρ cm = none → ∀ ⦃h : AW⦄ ⦃μ : Paint⦄ ⦃ρ1 ρ' : Store⦄ ⦃co : Nat⦄ ⦃oa : Option Addr⦄ ⦃oc : Nat⦄ ⦃acc : List Wds⦄ ⦃vs : List (Option Addr × Nat × Nat × List Value)⦄ ⦃Q : Value → AW → Prop⦄ ⦃pre : F⦄ ⦃a : Option Addr⦄ ⦃c : List Value⦄ ⦃cap : Nat⦄,
    Own h μ ρ' → Pcs ρ1 ρ' [co, cm] [.sl oa oc 1 (acc.map Wds.cell), .many vs] → ρ1 co = none → Fra [] ρ ρ1 → Vw ρ [] a c → Lies (Vw ρ []) (pre.app rest) c → (pre.app rest).len ≤ 140737488355328 → rest.wf = true → Slim rest → acc.length + rest.lines.length ≤ 1000000 → Built vs acc →
    (∀ h' μ' ρ2 oa' oc' acc' vs', Own h' μ' ρ2 → Pcs ρ1 ρ2 [co, cm] [.sl oa' oc' 1 (acc'.map Wds.cell), .many vs'] → Built vs' acc' → acc'.map Wds.x = acc.map Wds.x ++ rest.lines → (∀ x, x ∈ vs → x ∈ vs') → Q (.slice oa' acc'.length oc') h') →
    unitAt P f_action_lines 3 [3, 7, 8, 9] [.slice oa acc.length oc, .slice a (pre.app rest).len cap, .int .i64 ((pre.app rest).len : Int), .int .i64 (pre.len : Int)] h Q
theorem lines_8 {k m : Nat} {args : List Str} {body rest : F} (IB : LL body) (IR : LL rest) {cm : Nat} (T : Vw ρ [] (some ⟨2, 0, none⟩) pow10) (hcm : ρ cm = none) {ρ1 ρ' : Store} {co cx cn p na nc ac bc oc cap : Nat} {oa aa ba a nx : Option Addr} {acc : List Wds} {vs : List (Option Addr × Nat × Nat × List Value)} {pre : F} {c : List Value}
    (O : Own h μ ρ') (W : Pcs ρ1 ρ' [cn, cx, co, cm] [.sl nx nc 1 (strs (lineM k args m)), .var p [.int .i64 k, .slice aa args.length ac, .int .i64 m, .slice ba body.len bc], .sl oa oc 1 (acc.map Wds.cell), .many vs]) (hcn : ρ1 cn = none) (hcx : ρ1 cx = none) (hco : ρ1 co = none) (Fr : Fra [] ρ ρ1)
    (X : Vw ρ [] a c) (L : Lies (Vw ρ []) (pre.app (.cons k args m body rest)) c) (Lb : Ly ρ body ba) (hl : (pre.app (.cons k args m body rest)).len ≤ 140737488355328) (hbl : body.len ≤ 140737488355328) (hw : (F.cons k args m body rest).wf = true) (hs : Slim (.cons k args m body rest)) (hn : acc.length + (F.cons k args m body rest).lines.length ≤ 1000000) (B : Built vs acc) (hnx : na = (lineM k args m).length)
    (hq : ∀ h' μ' ρ2 oa' oc' acc' vs', Own h' μ' ρ2 → Pcs ρ1 ρ2 [co, cm] [.sl oa' oc' 1 (acc'.map Wds.cell), .many vs'] → Built vs' acc' → acc'.map Wds.x = acc.map Wds.x ++ (F.cons k args m body rest).lines → (∀ x, x ∈ vs → x ∈ vs') → Q (.slice oa' acc'.length oc') h') :
    unitAt P f_action_lines 8 [3, 5, 6, 7, 8, 9] [.slice oa acc.length oc, .pointer (some ⟨p, 0, none⟩), .slice nx na nc, .slice a (pre.app (.cons k args m body rest)).len cap, .int .i64 ((pre.app (.cons k args m body rest)).len : Int), .int .i64 (pre.len : Int)] h Q := by
  subst hnx
  have hlt : pre.len < (pre.app (.cons k args m body rest)).len := app_lt
  simp only [F.wf, Bool.and_eq_true] at hw
  obtain ⟨⟨⟨w1, w2⟩, w3⟩, w4⟩ := hw
  obtain ⟨s1, s2, s3⟩ := hs
  have hlines : (F.cons (k : Int) args (m : Int) body rest).lines = lineM k args m :: ((if opensM k = true then body.lines ++ [[wEnd]] else []) ++ rest.lines) := rfl
  rw [hlines] at hn hq
  simp only [List.length_cons, List.length_append] at hn
  obtain ⟨e3, e4⟩ := snocs pre k args m body
  have hcap : (lineM (k : Int) args (m : Int)).length ≤ nc := by have := w_cap O W 0 rfl; simpa using this
  refine r_action_lines_8 ?_
  obtain ⟨μ1, ρ2, O1, W1⟩ := w_into O W hcn 2 rfl
  obtain ⟨μ2, ρ3, ch, O2, W2, hch⟩ := w_block O1 W1 [.slice nx (lineM (k : Int) args (m : Int)).length nc] (n := 1) (sz := 1) rfl rfl
  refine w_app (P := P) O2 W2 2 (n := acc.length) (m := 1) ti_ty_sl_sl_string ti_ty_sl_string (by decide) rfl (by simp) (w_sl O2 W2 0 rfl) rfl rfl (by omega) (by omega) fun oa1 oc1 h2 μ4 ρ5 O4 W4 => ?_
  have W5 := W4.tail hch
  have W6 : Pcs ρ1 ρ5 [cx, co, cm] [.var p [.int .i64 k, .slice aa args.length ac, .int .i64 m, .slice ba body.len bc], .sl oa1 oc1 1 ((acc ++ [(⟨nx, nc, lineM k args m⟩ : Wds)]).map Wds.cell), .many ((nx, nc, 1, strs (lineM k args m)) :: vs)] := W5.eq (by simp [Wds.cell])
  have B1 := B.snoc (p := ⟨nx, nc, lineM k args m⟩) hcap
  simp only [oB_some, bC_true, bC_false, vInt_int, vBool_bool, vStr_string, vPtr_pointer, vSl_slice, vMap_map, vFun_func, vAgg_agg, vTup_tuple, vIfc_nil, vIfc_iface, lC_cons, lN_nil, aP_some, shO_none, shO_some, Option.isNone_none, Option.isNone_some, Bool.not_true, Bool.not_false]
  refine w_rd O4 W6 0 (j := 0) rfl rfl ?_
  simp only [oB_some, bC_true, bC_false, vInt_int, vBool_bool, vStr_string, vPtr_pointer, vSl_slice, vMap_map, vFun_func, vAgg_agg, vTup_tuple, vIfc_nil, vIfc_iface, lC_cons, lN_nil, aP_some, shO_none, shO_some, Option.isNone_none, Option.isNone_some, Bool.not_true, Bool.not_false]
  refine opens_ok ?_
  simp only [oB_some, bC_true, bC_false, vInt_int, vBool_bool, vStr_string, vPtr_pointer, vSl_slice, vMap_map, vFun_func, vAgg_agg, vTup_tuple, vIfc_nil, vIfc_iface, lC_cons, lN_nil, aP_some, shO_none, shO_some, Option.isNone_none, Option.isNone_some, Bool.not_true, Bool.not_false]
  rw [wrapS (by omega)]
  have hnm : ∀ c, c ∈ [cx, co, cm] → ρ c = none := fun c hc => by
    simp at hc; rcases hc with rfl | rfl | rfl
    · exact Fr.none0 hcx
    · exact Fr.none0 hco
    · exact hcm
  refine bC_iff (fun ho => ?_) (fun ho => ?_)
  · rw [ho] at hn hq
    simp only [if_true, List.length_append, List.length_cons, List.length_nil] at hn hq
    refine w_rd O4 W6 0 (j := 3) rfl rfl ?_
    simp only [oB_some, bC_true, bC_false, vInt_int, vBool_bool, vStr_string, vPtr_pointer, vSl_slice, vMap_map, vFun_func, vAgg_agg, vTup_tuple, vIfc_nil, vIfc_iface, lC_cons, lN_nil, aP_some, shO_none, shO_some, Option.isNone_none, Option.isNone_some, Bool.not_true, Bool.not_false]
    refine r_action_lines ?_
    obtain ⟨ρ7, cb, O6, W7, hcb⟩ := w_nil O4 W6.self.tail'.tail' 1
    have F6 : Fra [] ρ ρ5 := Fr.via W6.fra hnm
    obtain ⟨bcells, bX, bL⟩ := Lb
    refine IB T hcm (acc := []) (pre := .nil) O6 W7 hcb F6 bX bL hbl w3 s2 (by simp only [List.length_nil]; omega) Built.nil fun h7 μ7 ρ8 ba2 bc2 accb vs2 O7 W8 B2 e2 hmore => ?_
    simp only [List.map_nil, List.nil_append] at e2
    have hlb : accb.length = body.lines.length := by have := congrArg List.length e2; simpa using this
    simp only [oB_some, bC_true, bC_false, vInt_int, vBool_bool, vStr_string, vPtr_pointer, vSl_slice, vMap_map, vFun_func, vAgg_agg, vTup_tuple, vIfc_nil, vIfc_iface, lC_cons, lN_nil, aP_some, shO_none, shO_some, Option.isNone_none, Option.isNone_some, Bool.not_true, Bool.not_false]
    have W9 := W6.call1 (fs := [cx, co]) (ms := [cm]) (xs := [_, _]) rfl W8 hcb
    have hcb1 : ρ1 cb = none := W6.not0 hcb
    refine w_app (P := P) O7 W9 2 (n := acc.length + 1) (m := accb.length) ti_ty_sl_sl_string ti_ty_sl_string (by decide) rfl (by simp) (w_sl O7 W9 0 rfl) (by simp) (allOne_cells _) (by omega) (by omega) fun oa3 oc3 h8 μ8 ρ9 O8 W10 => ?_
    have W11 := W10.tail hcb1
    have W12 : Pcs ρ1 ρ9 [cx, co, cm] [.var p [.int .i64 k, .slice aa args.length ac, .int .i64 m, .slice ba body.len bc], .sl oa3 oc3 1 ((acc ++ [(⟨nx, nc, lineM k args m⟩ : Wds)] ++ accb).map Wds.cell), .many vs2] := W11.eq (by simp)
    have B3 : Built vs2 (acc ++ [(⟨nx, nc, lineM k args m⟩ : Wds)] ++ accb) := (B1.more hmore).app B2
    simp only [oB_some, bC_true, bC_false, vInt_int, vBool_bool, vStr_string, vPtr_pointer, vSl_slice, vMap_map, vFun_func, vAgg_agg, vTup_tuple, vIfc_nil, vIfc_iface, lC_cons, lN_nil, aP_some, shO_none, shO_some, Option.isNone_none, Option.isNone_some, Bool.not_true, Bool.not_false]
    rw [show acc.length + 1 + accb.length = (acc ++ [(⟨nx, nc, lineM k args m⟩ : Wds)] ++ accb).length from by simp; omega]
    refine app_line O8 W12 1 2 (by decide) rfl rfl [wEnd] (by simp; omega) fun h9 μ9 ρ10 oa4 oc4 q hq1 hq2 O9 W13 => ?_
    simp only [oB_some, bC_true, bC_false, vInt_int, vBool_bool, vStr_string, vPtr_pointer, vSl_slice, vMap_map, vFun_func, vAgg_agg, vTup_tuple, vIfc_nil, vIfc_iface, lC_cons, lN_nil, aP_some, shO_none, shO_some, Option.isNone_none, Option.isNone_some, Bool.not_true, Bool.not_false]
    have W14 := W13.tail hcx
    have B4 := B3.snoc (p := q) (by rw [hq1, hq2]; decide)
    rw [← e3] at L hl ⊢
    rw [← e4, show (acc ++ [(⟨nx, nc, lineM k args m⟩ : Wds)] ++ accb).length + 1 = (acc ++ [(⟨nx, nc, lineM k args m⟩ : Wds)] ++ accb ++ [q]).length from by simp; omega]
    refine IR T hcm O9 W14 hco Fr X L hl w4 s3 (by simp; omega) B4 fun h' μ' ρ' oa' oc' acc' vs' O' W' B' e' hm' => ?_
    refine hq h' μ' ρ' oa' oc' acc' vs' O' W' B' ?_ fun x hx => hm' _ (List.mem_cons_of_mem _ (hmore _ (List.mem_cons_of_mem _ hx)))
    rw [e']
    simp [hq1, e2]
  · rw [ho] at hn hq
    simp only [Bool.false_eq_true, if_false, List.length_nil, List.nil_append] at hn hq
    rw [← e3] at L hl ⊢
    rw [← e4, show acc.length + 1 = (acc ++ [(⟨nx, nc, lineM k args m⟩ : Wds)]).length from by simp]
    refine IR T hcm O4 (W6.tail hcx) hco Fr X L hl w4 s3 (by simp; omega) B1 fun h' μ' ρ' oa' oc' acc' vs' O' W' B' e' hm' => ?_
    refine hq h' μ' ρ' oa' oc' acc' vs' O' W' B' ?_ fun x hx => hm' _ (List.mem_cons_of_mem _ hx)
    rw [e']
    simp
theorem lines_loop : ∀ rest : F, LL rest
  | .nil => by
    intro ρ cm T hcm h μ ρ1 ρ' co oa oc acc vs Q pre a c cap O W hco Fr X L hl hw hs hn B hq
    refine r_action_lines_3 ?_
    rw [F.app_nil, geI (Nat.le_refl _)]
    simp only [oB_some, bC_true, bC_false, vInt_int, vBool_bool, vStr_string, vPtr_pointer, vSl_slice, vMap_map, vFun_func, vAgg_agg, vTup_tuple, vIfc_nil, vIfc_iface, lC_cons, lN_nil, aP_some, shO_none, shO_some, Option.isNone_none, Option.isNone_some, Bool.not_true, Bool.not_false]
    exact hq _ _ _ _ _ acc vs O W B (by simp [F.lines]) fun _ x => x
  | .cons op args kk body rest => by
    intro ρ cm T hcm h μ ρ1 ρ' co oa oc acc vs Q pre a c cap O W hco Fr X L hl hw hs hn B hq
    have hlt : pre.len < (pre.app (.cons op args kk body rest)).len := app_lt
    have w1 : F.fine op args.length kk = true := by
      have := hw; simp only [F.wf, Bool.and_eq_true] at this; exact this.1.1.1
    unfold F.fine at w1
    simp only [Bool.and_eq_true, Bool.or_eq_true, decide_eq_true_eq] at w1
    obtain ⟨⟨⟨⟨⟨k1, k2⟩, k3⟩, k4⟩, k5⟩, k6⟩ := w1
    obtain ⟨k, rfl⟩ : ∃ k : Nat, op = k := ⟨op.toNat, by omega⟩
    obtain ⟨m, rfl⟩ : ∃ m : Nat, kk = m := ⟨kk.toNat, by omega⟩
    have hal := hs.1
    have hnm : ∀ c, c ∈ [co, cm] → ρ c = none := fun c hc => by
      simp at hc; rcases hc with rfl | rfl
      · exact Fr.none0 hco
      · exact hcm
    have F0 : Fra [] ρ ρ' := Fr.via W.fra hnm
    refine r_action_lines_3 ?_
    rw [ltI hlt]
    simp only [oB_some, bC_true, bC_false, vInt_int, vBool_bool, vStr_string, vPtr_pointer, vSl_slice, vMap_map, vFun_func, vAgg_agg, vTup_tuple, vIfc_nil, vIfc_iface, lC_cons, lN_nil, aP_some, shO_none, shO_some, Option.isNone_none, Option.isNone_some, Bool.not_true, Bool.not_false]
    refine st_copyB O F0 X L W rfl rfl fun h1 μ1 ρx cx aa ac ba bc O1 W1 hcx F1 va la => ?_
    have hcx0 : ρ cx = none := Fr.none0 hcx
    have hnm1 : ∀ c, c ∈ [cx, co, cm] → ρ c = none := fun c hc => by
      rcases List.mem_cons.1 hc with rfl | hc
      · exact hcx0
      · exact hnm c hc
    refine w_rd O1 W1 0 (j := 0) rfl rfl ?_
    simp only [oB_some, bC_true, bC_false, vInt_int, vBool_bool, vStr_string, vPtr_pointer, vSl_slice, vMap_map, vFun_func, vAgg_agg, vTup_tuple, vIfc_nil, vIfc_iface, lC_cons, lN_nil, aP_some, shO_none, shO_some, Option.isNone_none, Option.isNone_some, Bool.not_true, Bool.not_false]
    refine word_ok O1 (by omega) fun h2 μ2 ρ2 O2 F2 => ?_
    have W2 := W1.keep0 F2
    simp only [oB_some, bC_true, bC_false, vInt_int, vBool_bool, vStr_string, vPtr_pointer, vSl_slice, vMap_map, vFun_func, vAgg_agg, vTup_tuple, vIfc_nil, vIfc_iface, lC_cons, lN_nil, aP_some, shO_none, shO_some, Option.isNone_none, Option.isNone_some, Bool.not_true, Bool.not_false]
    obtain ⟨μ3, ρ3, cn, O3, W3, hcn⟩ := w_block O2 W2 (strs [wordM k]) (n := 1) (sz := 1) rfl rfl
    have hnm3 : ∀ c, c ∈ [cn, cx, co, cm] → ρ c = none := fun c hc => by
      rcases List.mem_cons.1 hc with rfl | hc
      · exact Fr.none0 hcn
      · exact hnm1 c hc
    have F3 : Fra [] ρ ρ3 := Fr.via W3.fra hnm3
    repeat (first | refine ⟨rfl, ?_⟩ | refine ⟨trivial, ?_⟩ | simp only [oB_some, bC_true, bC_false, vInt_int, vBool_bool, vStr_string, vPtr_pointer, vSl_slice, vMap_map, vFun_func, vAgg_agg, vTup_tuple, vIfc_nil, vIfc_iface, lC_cons, lN_nil, aP_some, shO_none, shO_some, Option.isNone_none, Option.isNone_some, Bool.not_true, Bool.not_false] | refine w_rd (by assumption) (by assumption) 0 (by rfl) (by rfl) ?_ | refine w_rd (by assumption) (by assumption) 1 (by rfl) (by rfl) ?_ | refine w_wrL (by assumption) (by assumption) 0 (by rfl) (Nat.le_of_ble_eq_true (by rfl)) (by rfl) fun h ρz O W => ?_ | refine w_wrL (by assumption) (by assumption) 1 (by rfl) (Nat.le_of_ble_eq_true (by rfl)) (by rfl) fun h ρz O W => ?_ | refine w_wr (by assumption) (by assumption) 0 (by rfl) (Nat.le_of_ble_eq_true (by rfl)) (by rfl) fun h ρz O W => ?_ | refine w_wr (by assumption) (by assumption) 1 (by rfl) (Nat.le_of_ble_eq_true (by rfl)) (by rfl) fun h ρz O W => ?_)
    refine w_app (P := P) O3 W3 0 (n := 1) (m := args.length) ti_ty_sl_string ti_ty_string (by decide) rfl rfl ((va.keep F3).sl O3) (by simp) allOne_strs (by omega) (by omega) fun nx nc h4 μ4 ρ4 O4 W4 => ?_
    have hbl : body.len ≤ 140737488355328 := by
      have := len_lines body
      have w2 : (opensM k || decide (body.len = 0)) = true := by
        have := hw; simp only [F.wf, Bool.and_eq_true] at this; exact this.1.1.2
      cases ho : opensM (k : Int) with
      | true =>
        simp only [F.lines, ho, if_true, List.length_cons, List.length_append] at hn
        omega
      | false =>
        rw [ho] at w2
        simp at w2
        omega
    repeat (first | refine ⟨rfl, ?_⟩ | refine ⟨trivial, ?_⟩ | simp only [oB_some, bC_true, bC_false, vInt_int, vBool_bool, vStr_string, vPtr_pointer, vSl_slice, vMap_map, vFun_func, vAgg_agg, vTup_tuple, vIfc_nil, vIfc_iface, lC_cons, lN_nil, aP_some, shO_none, shO_some, Option.isNone_none, Option.isNone_some, Bool.not_true, Bool.not_false] | refine w_rd (by assumption) (by assumption) 0 (by rfl) (by rfl) ?_ | refine w_rd (by assumption) (by assumption) 1 (by rfl) (by rfl) ?_ | refine w_wrL (by assumption) (by assumption) 0 (by rfl) (Nat.le_of_ble_eq_true (by rfl)) (by rfl) fun h ρz O W => ?_ | refine w_wrL (by assumption) (by assumption) 1 (by rfl) (Nat.le_of_ble_eq_true (by rfl)) (by rfl) fun h ρz O W => ?_ | refine w_wr (by assumption) (by assumption) 0 (by rfl) (Nat.le_of_ble_eq_true (by rfl)) (by rfl) fun h ρz O W => ?_ | refine w_wr (by assumption) (by assumption) 1 (by rfl) (Nat.le_of_ble_eq_true (by rfl)) (by rfl) fun h ρz O W => ?_)
    have F4 : Fra [] ρ ρ4 := Fr.via W4.fra hnm3
    refine bC_iff (fun e10 => ?_) (fun e10 => ?_)
    · have e10 : k = 10 := by have := eqI e10; omega
      refine w_rd O4 W4 1 (j := 2) rfl rfl ?_
      simp only [oB_some, bC_true, bC_false, vInt_int, vBool_bool, vStr_string, vPtr_pointer, vSl_slice, vMap_map, vFun_func, vAgg_agg, vTup_tuple, vIfc_nil, vIfc_iface, lC_cons, lN_nil, aP_some, shO_none, shO_some, Option.isNone_none, Option.isNone_some, Bool.not_true, Bool.not_false]
      refine itoa_ok O4 (T.keep F4) (n := m) (by omega) fun h5 μ5 ρ5 O5 F5 => ?_
      have W5 := W4.keep0 F5
      simp only [oB_some, bC_true, bC_false, vInt_int, vBool_bool, vStr_string, vPtr_pointer, vSl_slice, vMap_map, vFun_func, vAgg_agg, vTup_tuple, vIfc_nil, vIfc_iface, lC_cons, lN_nil, aP_some, shO_none, shO_some, Option.isNone_none, Option.isNone_some, Bool.not_true, Bool.not_false]
      obtain ⟨μ6, ρ6, c6, O6, W6, hc6⟩ := w_block O5 W5 (strs [digS m]) (n := 1) (sz := 1) rfl rfl
      refine w_app (P := P) O6 W6 1 (n := 1 + args.length) (m := 1) ti_ty_sl_string ti_ty_string (by decide) rfl (by simp; omega) (w_sl O6 W6 0 rfl) rfl rfl (by omega) (by omega) fun nx nc h7 μ7 ρ7 O7 W7 => ?_
      simp only [oB_some, bC_true, bC_false, vInt_int, vBool_bool, vStr_string, vPtr_pointer, vSl_slice, vMap_map, vFun_func, vAgg_agg, vTup_tuple, vIfc_nil, vIfc_iface, lC_cons, lN_nil, aP_some, shO_none, shO_some, Option.isNone_none, Option.isNone_some, Bool.not_true, Bool.not_false]
      have el : lineM (k : Int) args (m : Int) = [wordM k] ++ args ++ [digS m] := by
        unfold lineM; rw [if_pos (by omega)]; simp
      have W8 : Pcs ρ1 ρ7 [cn, cx, co, cm] [.sl nx nc 1 (strs (lineM k args m)), .var (AW.next h) [.int .i64 k, .slice aa args.length ac, .int .i64 m, .slice ba body.len bc], .sl oa oc 1 (acc.map Wds.cell), .many vs] := (W7.tail hc6).eq (by rw [el]; simp [strs])
      refine lines_8 (lines_loop body) (lines_loop rest) T hcm O7 W8 hcn hcx hco Fr X L la hl hbl hw hs hn B (by rw [el]; simp; omega) hq
    · have e10 : k ≠ 10 := by have := neI e10; omega
      have el : lineM (k : Int) args (m : Int) = [wordM k] ++ args := by
        unfold lineM; rw [if_neg (by omega)]; simp
      have W8 : Pcs ρ1 ρ4 [cn, cx, co, cm] [.sl nx nc 1 (strs (lineM k args m)), .var (AW.next h) [.int .i64 k, .slice aa args.length ac, .int .i64 m, .slice ba body.len bc], .sl oa oc 1 (acc.map Wds.cell), .many vs] := W4.eq (by rw [el]; simp [strs])
      refine lines_8 (lines_loop body) (lines_loop rest) T hcm O4 W8 hcn hcx hco Fr X L la hl hbl hw hs hn B (by rw [el]; simp; omega) hq
/-- The lines of statements. -/
theorem lines_ok (O : Own h μ ρ) (T : Vw ρ [] (some ⟨2, 0, none⟩) pow10) {f : F} {a : Option Addr} {cap : Nat} (X : Ly ρ f a) (hl : f.len ≤ 140737488355328) (hw : f.wf = true) (hs : Slim f) (hn : f.lines.length ≤ 1000000)
    (H : ∀ h' μ' ρ' co cm oa oc ps vs, Own h' μ' ρ' → Pcs ρ ρ' [co, cm] [.sl oa oc 1 (ps.map Wds.cell), .many vs] → ρ co = none → ρ cm = none → Built vs ps → ps.map Wds.x = f.lines → Q (.slice oa ps.length oc) h') : EvQ P f_action_lines [.slice a f.len cap] h Q := by
  refine r_action_lines ?_
  obtain ⟨c, X, L⟩ := X
  obtain ⟨ρ1, cm, O1, W1, hcm⟩ := w_many O (p00 (ρ := ρ))
  have W1' : Pcs ρ1 ρ1 [cm] [.many []] := W1.self
  obtain ⟨ρ2, co, O2, W2, hco⟩ := w_nil O1 W1' 1
  have F1 : Fra [] ρ ρ1 := W1.fra0 fun c hc => by simp at hc; rw [hc]; exact hcm
  refine lines_loop f (pre := .nil) (acc := []) T hcm O2 W2 hco F1 X L hl hw hs (by simp; omega) Built.nil fun h' μ' ρ' oa' oc' acc' vs' O' W' B' e' _ => ?_
  have hco0 : ρ co = none := Fra.none0 F1 hco
  have W3 : Pcs ρ ρ' [co, cm] [.sl oa' oc' 1 (acc'.map Wds.cell), .many vs'] := ⟨W'.nodup, W'.len, W'.at_, fun c r hn hc => W'.fra c r hn (F1 c r (by simp) hc)⟩
  exact H _ _ _ _ _ _ _ _ _ O' W3 hco0 hcm B' (by simpa using e')
/-- .. if it may be. -/
theorem linesB_ok (O : Own h μ ρ) (T : Vw ρ [] (some ⟨2, 0, none⟩) pow10) {f : F} {a : Option Addr} {cap : Nat} (X : Ly ρ f a) (hl : f.len ≤ 140737488355328) (hz : f.size ≤ 1000000000) (hs : Slim f)
    (H1 : f.may = false → RdQ Q ρ (.tuple ⟨[.slice none 0 0, .int .i64 2]⟩))
    (H : f.may = true → ∀ h' μ' ρ' co cm oa oc ps vs, Own h' μ' ρ' → Pcs ρ ρ' [co, cm] [.sl oa oc 1 (ps.map Wds.cell), .many vs] → ρ co = none → ρ cm = none → Built vs ps → ps.map Wds.x = f.lines → Q (.tuple ⟨[.slice oa ps.length oc, .int .i64 0]⟩) h') : EvQ P f_action_Lines [.slice a f.len cap] h Q := by
  refine r_action_Lines ?_
  refine may_ok O X hz fun h1 μ1 ρ1 O1 F1 => ?_
  simp only [oB_some, bC_true, bC_false, vInt_int, vBool_bool, vStr_string, vPtr_pointer, vSl_slice, vMap_map, vFun_func, vAgg_agg, vTup_tuple, vIfc_nil, vIfc_iface, lC_cons, lN_nil, aP_some, shO_none, shO_some, Option.isNone_none, Option.isNone_some, Bool.not_true, Bool.not_false]
  refine bC_iff (fun e => ?_) (fun e => ?_)
  · exact H1 (nb e) h1 μ1 ρ1 O1 F1
  have e := nb' e
  obtain ⟨m1, m2, m3⟩ := F.may_iff.1 e
  have hlen := F.lines_len f
  refine lines_ok O1 (T.keep F1) (X.keep F1) hl m1 hs (by omega) fun h' μ' ρ' co cm oa oc ps vs O' W' hco hcm B' e' => ?_
  simp only [oB_some, bC_true, bC_false, vInt_int, vBool_bool, vStr_string, vPtr_pointer, vSl_slice, vMap_map, vFun_func, vAgg_agg, vTup_tuple, vIfc_nil, vIfc_iface, lC_cons, lN_nil, aP_some, shO_none, shO_some, Option.isNone_none, Option.isNone_some, Bool.not_true, Bool.not_false]
  have W3 : Pcs ρ ρ' [co, cm] [.sl oa oc 1 (ps.map Wds.cell), .many vs] := ⟨W'.nodup, W'.len, W'.at_, fun c r hn hc => W'.fra c r hn (F1 c r (by simp) hc)⟩
  exact H e _ _ _ _ _ _ _ _ _ O' W3 (Fra.none0 F1 hco) (Fra.none0 F1 hcm) B' e'
end Go.Proofs.YtgdkekdedgkglaaDoor
end

section
/- Rules of walks, printed by a program of ours: group ALaw. -/
namespace Go.Proofs.YtgdkekdedgkglaaDoor
open Go.Abs
set_option maxRecDepth 100000
theorem r_brickyardlaw13_ActionPrints {p1 : Option Addr} {m2 : Nat} {m3 : Nat} {h : AW} {Q : Value → AW → Prop} (H : EvQ P f_brickyardlaw13_works [] h fun v4 h5 => vBool v4 fun b6 => bC (!b6) (Q (Value.bool false) h5) (EvQ
  P f_brickyardlaw13_great [Value.slice p1 m2 m3] h5 fun v7 h8 => vBool v7 fun b9 => bC b9 (Q (Value.bool true) h8) (EvQ P f_action_Lines [Value.slice p1 m2 m3] h8 fun v10 h11 => vTup v10 fun l12 => lC l12
  fun v13 l14 => vSl v13 fun p15 m16 m17 => lC l14 fun v18 l19 => vInt IntKind.i64 v18 fun n20 => lN l19 (EvQ P f_brickyardref13_Lines [Value.slice p1 m2 m3] h11 fun v21 h22 => vTup v21 fun l23 =>
  lC l23 fun v24 l25 => vSl v24 fun p26 m27 m28 => lC l25 fun v29 l30 => vInt IntKind.i64 v29 fun n31 => lN l30 (EvQ P f_action_Print [Value.slice p1 m2 m3] h22 fun v32 h33 => vTup v32 fun
  l34 => lC l34 fun v35 l36 => vStr v35 fun s37 => lC l36 fun v38 l39 => vInt IntKind.i64 v38 fun n40 => lN l39 (EvQ P f_brickyardref13_Print [Value.slice p1 m2 m3] h33 fun v41 h42 => vTup v41 fun
  l43 => lC l43 fun v44 l45 => vStr v44 fun s46 => lC l45 fun v47 l48 => vInt IntKind.i64 v47 fun n49 => lN l48 (EvQ P f_action_May [Value.slice p1 m2 m3] h42 fun v50 h51 => vBool v50 fun
  b52 => EvQ P f_brickyardref13_May [Value.slice p1 m2 m3] h51 fun v53 h54 => vBool v53 fun b55 => bC (b52 == b55) (EvQ P f_action_Size [Value.slice p1 m2 m3] h54 fun v56 h57 => vInt IntKind.i64 v56 fun
  n58 => EvQ P f_brickyardref13_Size [Value.slice p1 m2 m3] h57 fun v59 h60 => vInt IntKind.i64 v59 fun n61 => bC (n58 == n61) (EvQ P f_action_Deep [Value.slice p1 m2 m3] h60 fun v62 h63 => vInt IntKind.i64
  v62 fun n64 => EvQ P f_brickyardref13_Deep [Value.slice p1 m2 m3] h63 fun v65 h66 => vInt IntKind.i64 v65 fun n67 => bC (n64 == n67) (EvQ P f_brickyardref13_Alike [Value.slice p15 m16 m17, Value.slice p26 m27 m28]
  h66 fun v68 h69 => vBool v68 fun b70 => bC b70 (bC (n20 == n31) (bC (bEq s37 s46) (Q (Value.bool (n40 == n49)) h69) (Q (Value.bool false) h69)) (Q (Value.bool false) h69)) (Q
  (Value.bool false) h69)) (Q (Value.bool false) h66)) (Q (Value.bool false) h60)) (Q (Value.bool false) h54)))))))) : EvQ P f_brickyardlaw13_ActionPrints [Value.slice p1 m2 m3] h Q := fn_ok (n := 400) (ann
  := annOf []) (Eq.mp (by kernel_rfl) H)
theorem r_brickyardlaw13_great {p1 : Option Addr} {m2 : Nat} {m3 : Nat} {h : AW} {Q : Value → AW → Prop} (H : EvQ P f_brickyardlaw13_weight [Value.slice p1 m2 m3, Value.int IntKind.i64 262144, Value.int IntKind.i64
  0] h fun v4 h5 => vInt IntKind.i64 v4 fun n6 => Q (Value.bool (decide (n6 ≥ 262144))) h5) : EvQ P f_brickyardlaw13_great [Value.slice p1 m2 m3] h Q := fn_ok (n := 400) (ann := annOf []) (Eq.mp (by
  kernel_rfl) H)
theorem r_brickyardlaw13_weight {p1 : Option Addr} {m2 : Nat} {m3 : Nat} {n4 : Int} {n5 : Int} {h : AW} {Q : Value → AW → Prop} (H : unitAt P f_brickyardlaw13_weight 3 [0, 1, 2, 7, 8] [Value.slice p1 m2 m3, Value.int
  IntKind.i64 n4, Value.int IntKind.i64 n5, Value.int IntKind.i64 0, Value.int IntKind.i64 0] h Q) : EvQ P f_brickyardlaw13_weight [Value.slice p1 m2 m3, Value.int IntKind.i64 n4, Value.int
  IntKind.i64 n5] h Q := fn_ok (n := 400) (ann := annOf [(3, [0, 1, 2, 7, 8]), (7, [0, 1, 2, 7, 8, 9])]) (Eq.mp (by kernel_rfl) H)
theorem r_brickyardlaw13_weight_3 {p1 : Option Addr} {m2 : Nat} {m3 : Nat} {n4 : Int} {n5 : Int} {n6 : Int} {n7 : Int} {h : AW} {Q : Value → AW → Prop} (H : bC (decide (n7 < (↑m2 : Int))) (bC
  (decide (n6 < n4)) (unitAt P f_brickyardlaw13_weight 7 [0, 1, 2, 7, 8, 9] [Value.slice p1 m2 m3, Value.int IntKind.i64 n4, Value.int IntKind.i64 n5, Value.int IntKind.i64 (IntKind.wrap IntKind.i64
  (n6 + 1)), Value.int IntKind.i64 n7, Value.int IntKind.i64 0] h Q) (Q (Value.int IntKind.i64 n6) h)) (Q (Value.int IntKind.i64 n6) h)) : unitAt P f_brickyardlaw13_weight 3 [0, 1, 2, 7, 8]
  [Value.slice p1 m2 m3, Value.int IntKind.i64 n4, Value.int IntKind.i64 n5, Value.int IntKind.i64 n6, Value.int IntKind.i64 n7] h Q := unit_ok (n := 400) (ann := annOf [(3, [0, 1,
  2, 7, 8]), (7, [0, 1, 2, 7, 8, 9])]) (Eq.mp (by kernel_rfl) H)
theorem r_brickyardlaw13_weight_7 {p1 : Option Addr} {m2 : Nat} {m3 : Nat} {n4 : Int} {n5 : Int} {n6 : Int} {n7 : Int} {n8 : Int} {h : AW} {Q : Value → AW → Prop} (H : aP p1 fun m9 m10 => oB
  (natIdx n7 m2) fun m11 => oB (AW.rd h m9 (m10 + m11 * 4 + 1)) fun v12 => vSl v12 fun p13 m14 m15 => bC (decide (n8 < (↑m14 : Int))) (bC (decide (n6 < n4)) (aP p1 fun m16 m17 =>
  oB (natIdx n7 m2) fun m18 => oB (AW.rd h m16 (m17 + m18 * 4 + 1)) fun v19 => vSl v19 fun p20 m21 m22 => aP p20 fun m23 m24 => oB (natIdx n8 m21) fun m25 => oB (AW.rd h m23 (m24 +
  m25 * 1)) fun v26 => vStr v26 fun s27 => unitAt P f_brickyardlaw13_weight 7 [0, 1, 2, 7, 8, 9] [Value.slice p1 m2 m3, Value.int IntKind.i64 n4, Value.int IntKind.i64 n5, Value.int IntKind.i64
  (IntKind.wrap IntKind.i64 (n6 + IntKind.wrap IntKind.i64 (1 + (↑(ByteArray.size s27) : Int)))), Value.int IntKind.i64 n7, Value.int IntKind.i64 (IntKind.wrap IntKind.i64 (n8 +
  1))] h Q) (bC (decide (n5 > 60)) (Q (Value.int IntKind.i64 n4) h) (aP p1 fun m28 m29 => oB (natIdx n7 m2) fun m30 => oB (AW.rd h m28 (m29 + m30 * 4 + 3)) fun v31 => vSl v31 fun
  p32 m33 m34 => EvQ P f_brickyardlaw13_weight [Value.slice p32 m33 m34, Value.int IntKind.i64 (IntKind.wrap IntKind.i64 (n4 - n6)), Value.int IntKind.i64 (IntKind.wrap IntKind.i64 (n5 + 1))] h fun
  v35 h36 => vInt IntKind.i64 v35 fun n37 => unitAt P f_brickyardlaw13_weight 3 [0, 1, 2, 7, 8] [Value.slice p1 m2 m3, Value.int IntKind.i64 n4, Value.int IntKind.i64 n5, Value.int IntKind.i64
  (IntKind.wrap IntKind.i64 (n6 + n37)), Value.int IntKind.i64 (IntKind.wrap IntKind.i64 (n7 + 1))] h36 Q))) (bC (decide (n5 > 60)) (Q (Value.int IntKind.i64 n4) h) (aP p1 fun m38
  m39 => oB (natIdx n7 m2) fun m40 => oB (AW.rd h m38 (m39 + m40 * 4 + 3)) fun v41 => vSl v41 fun p42 m43 m44 => EvQ P f_brickyardlaw13_weight [Value.slice p42 m43 m44, Value.int IntKind.i64
  (IntKind.wrap IntKind.i64 (n4 - n6)), Value.int IntKind.i64 (IntKind.wrap IntKind.i64 (n5 + 1))] h fun v45 h46 => vInt IntKind.i64 v45 fun n47 => unitAt P f_brickyardlaw13_weight 3 [0, 1, 2, 7, 8]
  [Value.slice p1 m2 m3, Value.int IntKind.i64 n4, Value.int IntKind.i64 n5, Value.int IntKind.i64 (IntKind.wrap IntKind.i64 (n6 + n47)), Value.int IntKind.i64 (IntKind.wrap
  IntKind.i64 (n7 + 1))] h46 Q))) : unitAt P f_brickyardlaw13_weight 7 [0, 1, 2, 7, 8, 9] [Value.slice p1 m2 m3, Value.int IntKind.i64 n4, Value.int IntKind.i64 n5, Value.int IntKind.i64 n6,
  Value.int IntKind.i64 n7, Value.int IntKind.i64 n8] h Q := unit_ok (n := 400) (ann := annOf [(3, [0, 1, 2, 7, 8]), (7, [0, 1, 2, 7, 8, 9])]) (Eq.mp (by kernel_rfl) H)
end Go.Proofs.YtgdkekdedgkglaaDoor
end

section
/- What is played: how great lists and lines are. -/
namespace Go.Proofs.YtgdkekdedgkglaaDoor
open Go.Abs Go.Abs.Fo
set_option maxRecDepth 100000
attribute [local irreducible] unitAt EvQ
variable {h : AW} {μ : Paint} {ρ : Store} {Q : Value → AW → Prop}

theorem wrap_mid {n : Int} (h1 : -400000000000000 ≤ n) (h2 : n ≤ 400000000000000) : IntKind.wrap .i64 n = n := Go.Abs.wrap_small (Int.le_trans (by decide) h1) (Int.lt_of_le_of_lt h2 (by decide))
/-- Behind the words: the body is weighed. -/
def WTail (Q : Value → AW → Prop) (h : AW) (a : Option Addr) (N cap : Nat) (most deep n : Int) (i : Nat) : Prop :=
  bC (decide (deep > 60)) (Q (.int .i64 most) h) (aP a fun m28 m29 => oB (natIdx (i : Int) N) fun m30 => oB (AW.rd h m28 (m29 + m30 * 4 + 3)) fun v31 => vSl v31 fun p32 m33 m34 =>
    EvQ P f_brickyardlaw13_weight [.slice p32 m33 m34, .int .i64 (IntKind.wrap .i64 (most - n)), .int .i64 (IntKind.wrap .i64 (deep + 1))] h fun v35 h36 => vInt .i64 v35 fun n37 =>
      unitAt P f_brickyardlaw13_weight 3 [0, 1, 2, 7, 8] [.slice a N cap, .int .i64 most, .int .i64 deep, .int .i64 (IntKind.wrap .i64 (n + n37)), .int .i64 (IntKind.wrap .i64 ((i : Int) + 1))] h36 Q)
theorem weight_words (O : Own h μ ρ) {pre rest body : F} {op kk : Int} {args : List Str} {a : Option Addr} {c : List Value} {cap : Nat} {most deep : Int} (X : Vw ρ [] a c) (L : Lies (Vw ρ []) (pre.app (.cons op args kk body rest)) c)
    (hm : most ≤ 262144) (hs : ∀ s, s ∈ args → s.size ≤ 140737488355328) (hal : args.length ≤ 140737488355328) {n0 : Int}
    (ht : ∀ n, 0 ≤ n → n ≤ 262144 + 140737488355329 → n = wA most args n0 → WTail Q h a (pre.app (.cons op args kk body rest)).len cap most deep n pre.len) :
    ∀ (d k : Nat) (n : Int), args.length - k = d → k ≤ args.length → 0 ≤ n → n ≤ 262144 + 140737488355329 → wA most (args.drop k) n = wA most args n0 →
      unitAt P f_brickyardlaw13_weight 7 [0, 1, 2, 7, 8, 9] [.slice a (pre.app (.cons op args kk body rest)).len cap, .int .i64 most, .int .i64 deep, .int .i64 n, .int .i64 (pre.len : Int), .int .i64 (k : Int)] h Q := by
  intro d
  induction d with
  | zero =>
    intro k n hd hk h0 h1 he
    have : k = args.length := by omega
    subst this
    rw [List.drop_length] at he
    refine r_brickyardlaw13_weight_7 ?_
    refine st_open O X L rfl rfl fun i off aa ac ba bc va la SA => ?_
    refine oB_bind (SA O Fra.refl).r1 ?_
    simp only [oB_some, bC_true, bC_false, vInt_int, vBool_bool, vStr_string, vPtr_pointer, vSl_slice, vMap_map, vFun_func, vAgg_agg, vTup_tuple, vIfc_nil, vIfc_iface, lC_cons, lN_nil, aP_some, shO_none, shO_some, Option.isNone_none, Option.isNone_some, Bool.not_true, Bool.not_false]
    rw [geI (Nat.le_refl _)]
    simp only [oB_some, bC_true, bC_false, vInt_int, vBool_bool, vStr_string, vPtr_pointer, vSl_slice, vMap_map, vFun_func, vAgg_agg, vTup_tuple, vIfc_nil, vIfc_iface, lC_cons, lN_nil, aP_some, shO_none, shO_some, Option.isNone_none, Option.isNone_some, Bool.not_true, Bool.not_false]
    exact ht n h0 h1 he
  | succ d ih =>
    intro k n hd hk h0 h1 he
    have hkl : k < args.length := by omega
    refine r_brickyardlaw13_weight_7 ?_
    refine st_open O X L rfl rfl fun i off aa ac ba bc va la SA => ?_
    refine oB_bind (SA O Fra.refl).r1 ?_
    simp only [oB_some, bC_true, bC_false, vInt_int, vBool_bool, vStr_string, vPtr_pointer, vSl_slice, vMap_map, vFun_func, vAgg_agg, vTup_tuple, vIfc_nil, vIfc_iface, lC_cons, lN_nil, aP_some, shO_none, shO_some, Option.isNone_none, Option.isNone_some, Bool.not_true, Bool.not_false]
    rw [ltI hkl]
    simp only [oB_some, bC_true, bC_false, vInt_int, vBool_bool, vStr_string, vPtr_pointer, vSl_slice, vMap_map, vFun_func, vAgg_agg, vTup_tuple, vIfc_nil, vIfc_iface, lC_cons, lN_nil, aP_some, shO_none, shO_some, Option.isNone_none, Option.isNone_some, Bool.not_true, Bool.not_false]
    rw [List.drop_eq_getElem_cons hkl, wA] at he
    refine bC_iff (fun e => ?_) (fun e => ?_)
    · have e : n < most := of_decide_eq_true e
      rw [if_pos e] at he
      refine st_open O X L rfl rfl fun i off aa ac ba bc va la SA => ?_
      refine oB_bind (SA O Fra.refl).r1 ?_
      simp only [oB_some, bC_true, bC_false, vInt_int, vBool_bool, vStr_string, vPtr_pointer, vSl_slice, vMap_map, vFun_func, vAgg_agg, vTup_tuple, vIfc_nil, vIfc_iface, lC_cons, lN_nil, aP_some, shO_none, shO_some, Option.isNone_none, Option.isNone_some, Bool.not_true, Bool.not_false]
      refine wd_at O va rfl rfl hkl ?_
      have hz := hs args[k] (List.getElem_mem hkl)
      rw [wrap_small (n := 1 + (args[k].size : Int)) (by omega) (by omega), wrap_small (n := n + (1 + (args[k].size : Int))) (by omega) (by omega), wrapS (by omega)]
      exact ih (k + 1) _ (by omega) (by omega) (by omega) (by omega) he
    · have e : ¬ n < most := of_decide_eq_false e
      rw [if_neg e] at he
      exact ht n h0 h1 he
theorem weight_loop (O : Own h μ ρ) : ∀ (rest : F) {Q : Value → AW → Prop} {pre : F} {a : Option Addr} {c : List Value} {cap : Nat} {most n : Int} {e : Nat}, Vw ρ [] a c → Lies (Vw ρ []) (pre.app rest) c → most ≤ 262144 → e ≤ 61 → Fits rest → 0 ≤ n → n ≤ 99 * 281474976710656 → (pre.app rest).len ≤ 140737488355328 →
    Q (.int .i64 (wt rest most (61 - e : Int) n)) h → unitAt P f_brickyardlaw13_weight 3 [0, 1, 2, 7, 8] [.slice a (pre.app rest).len cap, .int .i64 most, .int .i64 (61 - e : Int), .int .i64 n, .int .i64 (pre.len : Int)] h Q
  | .nil, Q, pre, a, c, cap, most, n, e, X, L, hm, he, hf, h0, h1, hl, hq => by
    refine r_brickyardlaw13_weight_3 ?_
    rw [F.app_nil, geI (Nat.le_refl _)]
    simp only [oB_some, bC_true, bC_false, vInt_int, vBool_bool, vStr_string, vPtr_pointer, vSl_slice, vMap_map, vFun_func, vAgg_agg, vTup_tuple, vIfc_nil, vIfc_iface, lC_cons, lN_nil, aP_some, shO_none, shO_some, Option.isNone_none, Option.isNone_some, Bool.not_true, Bool.not_false]
    exact hq
  | .cons op args kk body rest, Q, pre, a, c, cap, most, n, e, X, L, hm, he, hf, h0, h1, hl, hq => by
    have hlt : pre.len < (pre.app (.cons op args kk body rest)).len := app_lt
    obtain ⟨f1, f2, f3, f4, f5⟩ := hf
    refine r_brickyardlaw13_weight_3 ?_
    rw [ltI hlt]
    simp only [oB_some, bC_true, bC_false, vInt_int, vBool_bool, vStr_string, vPtr_pointer, vSl_slice, vMap_map, vFun_func, vAgg_agg, vTup_tuple, vIfc_nil, vIfc_iface, lC_cons, lN_nil, aP_some, shO_none, shO_some, Option.isNone_none, Option.isNone_some, Bool.not_true, Bool.not_false]
    rw [wt] at hq
    refine bC_iff (fun e1 => ?_) (fun e1 => ?_)
    · have e1 : n < most := of_decide_eq_true e1
      rw [if_pos e1] at hq
      rw [wrap_small (n := n + 1) (by omega) (by omega)]
      refine weight_words O X L hm f2 f1 (n0 := n + 1) (fun n2 g0 g1 g2 => ?_) _ 0 (n + 1) rfl (by omega) (by omega) (by omega) rfl
      subst g2
      unfold WTail
      refine bC_iff (fun e2 => ?_) (fun e2 => ?_)
      · rw [if_pos (of_decide_eq_true e2)] at hq
        exact hq
      · have e2 := of_decide_eq_false e2
        rw [if_neg e2] at hq
        obtain ⟨e', rfl⟩ : ∃ e', e = e' + 1 := ⟨e - 1, by omega⟩
        have hdd : (61 - ((e' + 1 : Nat) : Int) + 1 : Int) = (61 - e' : Int) := by omega
        refine st_open O X L rfl rfl fun i off aa ac ba bc va la SA => ?_
        refine oB_bind (SA O Fra.refl).r3 ?_
        simp only [oB_some, bC_true, bC_false, vInt_int, vBool_bool, vStr_string, vPtr_pointer, vSl_slice, vMap_map, vFun_func, vAgg_agg, vTup_tuple, vIfc_nil, vIfc_iface, lC_cons, lN_nil, aP_some, shO_none, shO_some, Option.isNone_none, Option.isNone_some, Bool.not_true, Bool.not_false]
        obtain ⟨bcells, v2, v3⟩ := la
        rw [wrap_small (n := 61 - ((e' + 1 : Nat) : Int) + 1) (by omega) (by omega), hdd, wrap_mid (n := most - wA most args (n + 1)) (by omega) (by omega)]
        rw [hdd] at hq
        refine r_brickyardlaw13_weight ?_
        have hb := wt_le (f := body) (most := most - wA most args (n + 1)) (n := 0) (e := e') (by omega) f4 (by omega) (by omega)
        refine weight_loop O body (pre := .nil) v2 v3 (by omega) (by omega) f4 (by omega) (by omega) f3 ?_
        simp only [oB_some, bC_true, bC_false, vInt_int, vBool_bool, vStr_string, vPtr_pointer, vSl_slice, vMap_map, vFun_func, vAgg_agg, vTup_tuple, vIfc_nil, vIfc_iface, lC_cons, lN_nil, aP_some, shO_none, shO_some, Option.isNone_none, Option.isNone_some, Bool.not_true, Bool.not_false]
        have hbb : wt body (most - wA most args (n + 1)) (61 - e') 0 ≤ 62 * 281474976710656 := by
          rcases hb.2 with x | x <;> omega
        rw [wrap_small (n := wA most args (n + 1) + wt body (most - wA most args (n + 1)) (61 - e') 0) (by omega) (by omega), wrapS (by omega)]
        have e3 : ∀ g : F, (pre.snoc op args kk body).app g = pre.app (.cons op args kk body g) := fun g => F.snoc_app pre op args kk body g
        have e4 : (pre.snoc op args kk body).len = pre.len + 1 := F.snoc_len pre op args kk body
        have := weight_loop O rest (Q := Q) (pre := pre.snoc op args kk body) (a := a) (c := c) (cap := cap) (most := most) (n := wA most args (n + 1) + wt body (most - wA most args (n + 1)) (61 - e') 0) (e := e' + 1) X (by rw [e3]; exact L) hm he f5 (by omega) (by omega) (by rw [e3]; exact hl) hq
        rw [e3, e4] at this
        exact this
    · rw [if_neg (of_decide_eq_false e1)] at hq
      exact hq
theorem great_ok (O : Own h μ ρ) {f : F} {a : Option Addr} {cap : Nat} (X : Ly ρ f a) (hf : Fits f) (hl : f.len ≤ 140737488355328) (hq : Q (.bool (greatM f)) h) : EvQ P f_brickyardlaw13_great [.slice a f.len cap] h Q := by
  obtain ⟨c, v, l⟩ := X
  refine r_brickyardlaw13_great (r_brickyardlaw13_weight ?_)
  refine weight_loop O f (pre := .nil) (e := 61) v l (by omega) (by omega) hf (by omega) (by omega) hl ?_
  simp only [oB_some, bC_true, bC_false, vInt_int, vBool_bool, vStr_string, vPtr_pointer, vSl_slice, vMap_map, vFun_func, vAgg_agg, vTup_tuple, vIfc_nil, vIfc_iface, lC_cons, lN_nil, aP_some, shO_none, shO_some, Option.isNone_none, Option.isNone_some, Bool.not_true, Bool.not_false]
  exact hq

end Go.Proofs.YtgdkekdedgkglaaDoor
end

section
/- Two lists of statements: the same? -/
namespace Go.Proofs.YtgdkekdedgkglaaDoor
open Go.Abs Go.Abs.Fo
set_option maxRecDepth 100000
attribute [local irreducible] unitAt EvQ
variable {h : AW} {μ : Paint} {ρ : Store} {Q : Value → AW → Prop}

end Go.Proofs.YtgdkekdedgkglaaDoor
end

section
/- Numbers read from decimal digits by the library; a repeat's number. -/
namespace Go.Proofs.YtgdkekdedgkglaaDoor
open Go.Abs Go.Abs.Fo
set_option maxRecDepth 100000
attribute [local irreducible] unitAt EvQ
variable {h : AW} {μ : Paint} {ρ : Store} {Q : Value → AW → Prop}
end Go.Proofs.YtgdkekdedgkglaaDoor
end
