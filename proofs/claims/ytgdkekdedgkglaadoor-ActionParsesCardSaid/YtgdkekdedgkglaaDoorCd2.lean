/- A deterministic heap for the model, proved sound, and walks of the program over it: part 7. No condition. -/
import Derived.Test.YtgdkekdedgkglaaDoorAb1
import Derived.Test.YtgdkekdedgkglaaDoorAb2
import Derived.Test.YtgdkekdedgkglaaDoorAb3
import Derived.Test.YtgdkekdedgkglaaDoorAb4
import Derived.Test.YtgdkekdedgkglaaDoorCd1
import Derived.Test.YtgdkekdedgkglaaDoorAb5
set_option linter.unusedVariables false
set_option linter.unusedSimpArgs false
set_option linter.unusedSectionVars false
section
/- Layer 13: kinds, numbers and words. -/
namespace Go.Proofs.YtgdkekdedgkglaaDoor
open Go.Abs Go.Abs.Fo
set_option maxRecDepth 100000
attribute [local irreducible] unitAt EvQ
variable {h : AW} {μ : Paint} {ρ : Store} {Q : Value → AW → Prop}

theorem opens_ok {n : Int} (hq : Q (.bool (opensM n)) h) : EvQ P f_action_opens [.int .i64 n] h Q := by
  refine r_action_opens ?_
  unfold opensM at hq
  refine bC_iff (fun e => ?_) (fun e => ?_)
  · have : decide (10 ≤ n) = true := e
    rw [this] at hq; exact hq
  · have : decide (10 ≤ n) = false := e
    rw [this] at hq; exact hq
theorem eqI {a b : Int} (e : (a == b) = true) : a = b := by simpa using e
theorem neI {a b : Int} (e : (a == b) = false) : a ≠ b := by simpa using e
theorem nb {b : Bool} (e : (!b) = true) : b = false := by cases b <;> simp_all
theorem nb' {b : Bool} (e : (!b) = false) : b = true := by cases b <;> simp_all
theorem rOpens_ok {n : Int} (hq : Q (.bool (opensM n)) h) : EvQ P f_brickyardref13_Opens [.int .i64 n] h Q := by
  refine r_brickyardref13_Opens ?_
  refine bC_iff (fun e => ?_) (fun e => ?_)
  · have e := eqI e; subst e; exact hq
  · refine bC_iff (fun e2 => ?_) (fun e2 => ?_)
    · have e := eqI e2; subst e; exact hq
    · have : (n == 12) = opensM n := by
        have h1 := neI e
        have h2 := neI e2
        unfold opensM
        rw [Bool.eq_iff_iff]
        simp
        omega
      rw [this]; exact hq
theorem rArgs_ok {n : Int} (hq : Q (.int .i64 (argsM n)) h) : EvQ P f_brickyardref13_Args [.int .i64 n] h Q := by
  refine r_brickyardref13_Args ?_
  refine bC_iff (fun e => ?_) (fun e1 => ?_)
  · have e := eqI e; subst e; exact hq
  refine bC_iff (fun e => ?_) (fun e2 => ?_)
  · have e := eqI e; subst e; exact hq
  refine bC_iff (fun e => ?_) (fun e3 => ?_)
  · have e := eqI e; subst e; exact hq
  refine bC_iff (fun e => ?_) (fun e4 => ?_)
  · have e := eqI e; subst e; exact hq
  refine r_brickyardref13_Args_7 ?_
  refine bC_iff (fun e => ?_) (fun e5 => ?_)
  · have e := eqI e; subst e; exact hq
  refine bC_iff (fun e => ?_) (fun e6 => ?_)
  · have e := eqI e; subst e; exact hq
  refine r_brickyardref13_Args_10 ?_
  refine bC_iff (fun e => ?_) (fun e7 => ?_)
  · have e := eqI e; subst e; exact hq
  · have h1 := neI e1
    have h2 := neI e2
    have h3 := neI e3
    have h4 := neI e4
    have h5 := neI e5
    have h6 := neI e6
    have h7 := neI e7
    rw [argsM, if_neg (by omega), if_neg (by omega), if_neg (by omega)] at hq
    exact hq
theorem fits_ok {n : Int} {k : Nat} (hq : Q (.bool (fitsM n k)) h) : EvQ P f_action_fits [.int .i64 n, .int .i64 (k : Int)] h Q := by
  have one : ∀ m : Nat, argsM n = (m : Int) → ((k : Int) == (m : Int)) = fitsM n k := by
    intro m e
    unfold fitsM
    rw [e]
    rw [Bool.eq_iff_iff]
    simp
    omega
  have o1 : ∀ e : argsM n = 1, Q (.bool ((k : Int) == 1)) h := fun e => by
    have := one 1 e
    rw [← this] at hq; exact hq
  refine r_action_fits ?_
  refine bC_iff (fun e => ?_) (fun e1 => ?_)
  · have e := eqI e; subst e; exact o1 rfl
  refine bC_iff (fun e => ?_) (fun e2 => ?_)
  · have e := eqI e; subst e; exact o1 rfl
  refine bC_iff (fun e => ?_) (fun e3 => ?_)
  · have e := eqI e; subst e; exact o1 rfl
  refine bC_iff (fun e => ?_) (fun e4 => ?_)
  · have e := eqI e; subst e; exact o1 rfl
  refine r_action_fits_7 ?_
  refine bC_iff (fun e => ?_) (fun e5 => ?_)
  · have e := eqI e; subst e; exact hq
  refine bC_iff (fun e => ?_) (fun e6 => ?_)
  · have e := eqI e; subst e; exact hq
  refine r_action_fits_10 ?_
  refine bC_iff (fun e => ?_) (fun e7 => ?_)
  · have e := eqI e; subst e
    have := one 2 rfl
    rw [← this] at hq; exact hq
  · have h1 := neI e1
    have h2 := neI e2
    have h3 := neI e3
    have h4 := neI e4
    have h5 := neI e5
    have h6 := neI e6
    have h7 := neI e7
    have := one 0 (by rw [argsM, if_neg (by omega), if_neg (by omega), if_neg (by omega)]; rfl)
    rw [← this] at hq; exact hq
theorem wordM_out {n : Int} (hn : n < 1 ∨ 12 < n) : wordM n = e0 := by
  cases n with
  | negSucc k => rfl
  | ofNat k =>
    unfold wordM
    simp only
    by_cases hk : k = 0
    · subst hk; rfl
    · have : 12 < k := by
        rcases hn with x | x
        · have x : (k : Int) < 1 := x
          omega
        · have x : 12 < (k : Int) := x
          omega
      rw [List.getElem?_eq_none (by simp; omega)]; rfl
theorem rWord_ok {n : Int} (hq : Q (.string (wordM n)) h) : EvQ P f_brickyardref13_Word [.int .i64 n] h Q := by
  refine r_brickyardref13_Word ?_
  refine bC_iff (fun e => ?_) (fun e1 => ?_)
  · have e := eqI e; subst e; exact hq
  refine bC_iff (fun e => ?_) (fun e2 => ?_)
  · have e := eqI e; subst e; exact hq
  refine bC_iff (fun e => ?_) (fun e3 => ?_)
  · have e := eqI e; subst e; exact hq
  refine bC_iff (fun e => ?_) (fun e4 => ?_)
  · have e := eqI e; subst e; exact hq
  refine bC_iff (fun e => ?_) (fun e5 => ?_)
  · have e := eqI e; subst e; exact hq
  refine bC_iff (fun e => ?_) (fun e6 => ?_)
  · have e := eqI e; subst e; exact hq
  refine bC_iff (fun e => ?_) (fun e7 => ?_)
  · have e := eqI e; subst e; exact hq
  refine bC_iff (fun e => ?_) (fun e8 => ?_)
  · have e := eqI e; subst e; exact hq
  refine bC_iff (fun e => ?_) (fun e9 => ?_)
  · have e := eqI e; subst e; exact hq
  refine bC_iff (fun e => ?_) (fun e10 => ?_)
  · have e := eqI e; subst e; exact hq
  refine bC_iff (fun e => ?_) (fun e11 => ?_)
  · have e := eqI e; subst e; exact hq
  refine bC_iff (fun e => ?_) (fun e12 => ?_)
  · have e := eqI e; subst e; exact hq
  have h1 := neI e1
  have h2 := neI e2
  have h3 := neI e3
  have h4 := neI e4
  have h5 := neI e5
  have h6 := neI e6
  have h7 := neI e7
  have h8 := neI e8
  have h9 := neI e9
  have h10 := neI e10
  have h11 := neI e11
  have h12 := neI e12
  rw [wordM_out (by omega)] at hq
  exact hq
theorem bytes_one {b : UInt8} : AW.bytes (h.addVar [.int .u8 b.toNat]) (some ⟨h.next, 0, none⟩) 1 = some ⟨#[b]⟩ := by
  have hr : (h.addVar [.int .u8 b.toNat]).rd h.next 0 = some (.int .u8 b.toNat) := by
    have := (addVar_at (h := h) (l := [.int .u8 b.toNat])).rd 0
    exact this
  have hn : (h.addVar [.int .u8 b.toNat]).rdN h.next 0 1 = some [.int .u8 b.toNat] := by
    simp only [AW.rdN]
    rw [hr]
  unfold AW.bytes
  simp only
  rw [hn]
  simp only [bytesV]
  rw [show UInt8.ofNat (Int.toNat ((b.toNat : Nat) : Int)) = b from by simp]
theorem wrap8 {n : Nat} (hn : n < 256) : IntKind.wrap .u8 (n : Int) = (n : Int) := by
  unfold IntKind.wrap
  simp [IntKind.signed, IntKind.bits]
  omega
theorem digits_more : ∀ (k n : Nat), n < 10 ^ (k + 1) → digits (k + 1) n = digits k n
  | 0, n, hn => by
    rw [digits, digits, if_neg (by omega)]
  | k + 1, n, hn => by
    rw [digits]
    conv => rhs; rw [digits]
    rw [digits_more k (n / 10) (by rw [Nat.pow_succ] at hn; omega)]
theorem digS_rec {n : Nat} (h0 : 10 ≤ n) (hn : n < 10000) : digS n = digS (n / 10) ++ ⟨#[digB n]⟩ := by
  unfold digS
  rw [digits, if_pos h0]
  have : digits 20 (n / 10) = digits 19 (n / 10) := digits_more 19 _ (by omega)
  rw [this]
  have hh : ∀ a b : List UInt8, (⟨⟨a ++ b⟩⟩ : ByteArray) = (⟨⟨a⟩⟩ : ByteArray) ++ (⟨⟨b⟩⟩ : ByteArray) := by
    intro a b
    apply ByteArray.ext
    simp
  exact hh _ _
theorem digS_small {n : Nat} (h0 : ¬ 10 ≤ n) : digS n = ⟨#[digB n]⟩ := by
  unfold digS
  rw [digits, if_neg h0]
theorem digits_len : ∀ (k n : Nat), (digits k n).length ≤ k + 1
  | 0, n => by simp [digits]
  | k + 1, n => by
    rw [digits]; split
    · have := digits_len k (n / 10); simp; omega
    · simp
theorem rDigits_ok (O : Own h μ ρ) {n : Nat} (hn : n < 10000) (hq : RdQ Q ρ (.string (digS n))) : EvQ P f_brickyardref13_Digits [.int .i64 (n : Int)] h Q := by
  induction n using Nat.strongRecOn generalizing h μ ρ Q with
  | ind n ih =>
    have hw : IntKind.wrap .u8 (IntKind.wrap .i64 (48 + Int.tmod (n : Int) 10)) = ((digB n).toNat : Int) := by
      have e : (48 + Int.tmod (n : Int) 10) = ((48 + n % 10 : Nat) : Int) := by
        have : Int.tmod (n : Int) ((10 : Nat) : Int) = ((n % 10 : Nat) : Int) := rfl
        rw [show (10 : Int) = ((10 : Nat) : Int) from rfl, this]; omega
      rw [e, wrap_small (n := ((48 + n % 10 : Nat) : Int)) (by omega) (by omega), wrap8 (by omega)]
      have : (digB n).toNat = 48 + n % 10 := by
        unfold digB
        rw [UInt8.toNat_ofNat']; omega
      rw [this]
    refine r_brickyardref13_Digits ?_
    rw [hw, bytes_one]
    simp only [oB_some, bC_true, bC_false, vInt_int, vBool_bool, vStr_string, vPtr_pointer, vSl_slice, vMap_map, vFun_func, vAgg_agg, vTup_tuple, vIfc_nil, vIfc_iface, lC_cons, lN_nil, aP_some, shO_none, shO_some, Option.isNone_none, Option.isNone_some, Bool.not_true, Bool.not_false]
    obtain ⟨μ1, O1⟩ := o_junk (l := [.int .u8 (digB n).toNat]) O
    refine bC_iff (fun e => ?_) (fun e => ?_)
    · have e : (n : Int) ≥ 10 := of_decide_eq_true e
      have h10 : 10 ≤ n := by omega
      have e2 : IntKind.wrap .i64 (Int.tdiv (n : Int) 10) = ((n / 10 : Nat) : Int) := by
        have : Int.tdiv (n : Int) ((10 : Nat) : Int) = ((n / 10 : Nat) : Int) := rfl
        rw [show (10 : Int) = ((10 : Nat) : Int) from rfl, this, wrap_small (n := ((n / 10 : Nat) : Int)) (by omega) (by omega)]
      rw [e2]
      refine ih (n / 10) (by omega) O1 (by omega) fun h2 μ2 ρ2 O2 F2 => ?_
      simp only [oB_some, bC_true, bC_false, vInt_int, vBool_bool, vStr_string, vPtr_pointer, vSl_slice, vMap_map, vFun_func, vAgg_agg, vTup_tuple, vIfc_nil, vIfc_iface, lC_cons, lN_nil, aP_some, shO_none, shO_some, Option.isNone_none, Option.isNone_some, Bool.not_true, Bool.not_false]
      have hl : ∀ k, (digS k).size ≤ 21 := fun k => by
        have := digits_len 20 k
        simpa [digS, ByteArray.size] using this
      have h1 : (digS (n / 10)).size ≤ 21 := hl _
      rw [Nat.ble_eq_true_of_le (by have : (ByteArray.mk #[digB n]).size = 1 := rfl; omega)]
      simp only [oB_some, bC_true, bC_false, vInt_int, vBool_bool, vStr_string, vPtr_pointer, vSl_slice, vMap_map, vFun_func, vAgg_agg, vTup_tuple, vIfc_nil, vIfc_iface, lC_cons, lN_nil, aP_some, shO_none, shO_some, Option.isNone_none, Option.isNone_some, Bool.not_true, Bool.not_false]
      rw [← digS_rec h10 hn]
      exact hq _ _ _ O2 F2
    · have e : ¬ (n : Int) ≥ 10 := of_decide_eq_false e
      rw [digS_small (by omega)] at hq
      exact hq.now O1
theorem rNumber_loop (O : Own h μ ρ) {s : Str} (hs : s.size ≤ 4) (h1 : 1 ≤ s.size) (hq : RdQ Q ρ (.int .i64 (numM s))) : ∀ (d k n : Nat), s.size - k = d → k ≤ s.size → n < 10 ^ k → numL s.data.toList 0 = numL (s.data.toList.drop k) n →
    unitAt P f_brickyardref13_Number 5 [0, 3, 4] [.string s, .int .i64 (n : Int), .int .i64 (k : Int)] h Q := by
  have hno : numL s.data.toList 0 = none → numM s = -1 := fun e => by
    unfold numM
    rw [if_neg (by omega), e]
  have hlen : s.data.toList.length = s.size := rfl
  intro d
  induction d with
  | zero =>
    intro k n hd hk hn he
    refine r_brickyardref13_Number_5 ?_
    rw [geI (by omega)]
    simp only [oB_some, bC_true, bC_false, vInt_int, vBool_bool, vStr_string, vPtr_pointer, vSl_slice, vMap_map, vFun_func, vAgg_agg, vTup_tuple, vIfc_nil, vIfc_iface, lC_cons, lN_nil, aP_some, shO_none, shO_some, Option.isNone_none, Option.isNone_some, Bool.not_true, Bool.not_false]
    rw [List.drop_eq_nil_of_le (by omega), numL] at he
    have hnb : n < 10000 := Nat.lt_of_lt_of_le hn (by have : 10 ^ k ≤ 10 ^ 4 := Nat.pow_le_pow_right (by omega) (by omega); exact this)
    unfold numM at hq
    rw [if_neg (by omega), he] at hq
    simp only at hq
    refine bC_iff (fun e => ?_) (fun e => ?_)
    · have e : (n : Int) > 1000 := of_decide_eq_true e
      rw [if_pos (.inl (by omega))] at hq
      exact hq.now O
    · have e : ¬ (n : Int) > 1000 := of_decide_eq_false e
      refine rDigits_ok O hnb fun h2 μ2 ρ2 O2 F2 => ?_
      simp only [oB_some, bC_true, bC_false, vInt_int, vBool_bool, vStr_string, vPtr_pointer, vSl_slice, vMap_map, vFun_func, vAgg_agg, vTup_tuple, vIfc_nil, vIfc_iface, lC_cons, lN_nil, aP_some, shO_none, shO_some, Option.isNone_none, Option.isNone_some, Bool.not_true, Bool.not_false]
      refine bC_iff (fun e2 => ?_) (fun e2 => ?_)
      · have e2 : digS n ≠ s := by simpa [bEq_false] using e2
        rw [if_pos (.inr e2)] at hq
        exact hq _ _ _ O2 F2
      · have e2 : digS n = s := by simpa [bEq_iff] using e2
        rw [if_neg (by
          rintro (x | x)
          · omega
          · exact x e2)] at hq
        exact hq _ _ _ O2 F2
  | succ d ih =>
    intro k n hd hk hn he
    have hlt : k < s.size := by omega
    have hlt' : k < s.data.toList.length := by omega
    have hnb : n < 10000 := Nat.lt_of_lt_of_le hn (by have : 10 ^ k ≤ 10 ^ 4 := Nat.pow_le_pow_right (by omega) (by omega); exact this)
    refine r_brickyardref13_Number_5 ?_
    rw [ltI hlt]
    simp only [oB_some, bC_true, bC_false, vInt_int, vBool_bool, vStr_string, vPtr_pointer, vSl_slice, vMap_map, vFun_func, vAgg_agg, vTup_tuple, vIfc_nil, vIfc_iface, lC_cons, lN_nil, aP_some, shO_none, shO_some, Option.isNone_none, Option.isNone_some, Bool.not_true, Bool.not_false]
    have hb : bAt s k = some ((s.data.toList[k]).toNat : Int) := by
      unfold bAt
      rw [Array.getElem?_eq_getElem (by exact hlt)]
      simp
    rw [natIdx_eq hlt]
    simp only [oB_some, bC_true, bC_false, vInt_int, vBool_bool, vStr_string, vPtr_pointer, vSl_slice, vMap_map, vFun_func, vAgg_agg, vTup_tuple, vIfc_nil, vIfc_iface, lC_cons, lN_nil, aP_some, shO_none, shO_some, Option.isNone_none, Option.isNone_some, Bool.not_true, Bool.not_false, hb]
    rw [List.drop_eq_getElem_cons hlt', numL] at he
    generalize s.data.toList[k] = b at he
    refine bC_iff (fun e => ?_) (fun e => ?_)
    · have e : ((b.toNat : Nat) : Int) < 48 := of_decide_eq_true e
      rw [if_pos (.inl (by omega))] at he
      rw [hno he] at hq
      exact hq.now O
    have e : ¬ ((b.toNat : Nat) : Int) < 48 := of_decide_eq_false e
    refine bC_iff (fun e2 => ?_) (fun e2 => ?_)
    · have e2 : ((b.toNat : Nat) : Int) > 57 := of_decide_eq_true e2
      rw [if_pos (.inr (by omega))] at he
      rw [hno he] at hq
      exact hq.now O
    have e2 : ¬ ((b.toNat : Nat) : Int) > 57 := of_decide_eq_false e2
    rw [if_neg (by omega)] at he
    have w1 : IntKind.wrap .u8 (((b.toNat : Nat) : Int) - 48) = ((b.toNat - 48 : Nat) : Int) := by
      rw [show ((b.toNat : Nat) : Int) - 48 = ((b.toNat - 48 : Nat) : Int) from by omega, wrap8 (by omega)]
    rw [w1, wrap_sm (n := 10 * (n : Int)) (by omega) (by omega), wrap_sm (n := ((b.toNat - 48 : Nat) : Int)) (by omega) (by omega), wrap_sm (by omega) (by omega), wrapS (by omega)]
    rw [show 10 * (n : Int) + ((b.toNat - 48 : Nat) : Int) = ((10 * n + (b.toNat - 48) : Nat) : Int) from by omega]
    exact ih (k + 1) _ (by omega) (by omega) (by rw [Nat.pow_succ]; omega) he
theorem rNumber_ok (O : Own h μ ρ) {s : Str} (hq : RdQ Q ρ (.int .i64 (numM s))) : EvQ P f_brickyardref13_Number [.string s] h Q := by
  refine r_brickyardref13_Number ?_
  refine bC_iff (fun e => ?_) (fun e => ?_)
  · have e : (s.size : Int) < 1 := of_decide_eq_true e
    unfold numM at hq
    rw [if_pos (.inl (by omega))] at hq
    exact hq.now O
  have e : ¬ (s.size : Int) < 1 := of_decide_eq_false e
  refine bC_iff (fun e2 => ?_) (fun e2 => ?_)
  · have e2 : (s.size : Int) > 4 := of_decide_eq_true e2
    unfold numM at hq
    rw [if_pos (.inr (by omega))] at hq
    exact hq.now O
  have e2 : ¬ (s.size : Int) > 4 := of_decide_eq_false e2
  exact rNumber_loop O (by omega) (by omega) hq _ 0 0 rfl (by omega) (by simp) rfl
end Go.Proofs.YtgdkekdedgkglaaDoor
end

section
/- Numbers out of words: where they may be had. -/
namespace Go.Proofs.YtgdkekdedgkglaaDoor
open Go.Abs Go.Abs.Fo
/-- Of these words a number is asked. -/
def Tbs (G : Str → Prop) (ρ : Store) : Prop :=
  ∀ {h : AW} {μ : Paint} {ρ' : Store} {s : Str} {Q : Value → AW → Prop}, Own h μ ρ' → Fra [] ρ ρ' → G s → RdQ Q ρ' (.int .i64 (numM s)) → EvQ P f_action_number [.string s] h Q
theorem Tbs.keep {G : Str → Prop} {ρ ρ' : Store} (T : Tbs G ρ) (F : Fra [] ρ ρ') : Tbs G ρ' := fun O F' => T O (F.trans F')
theorem number_ok {G : Str → Prop} {h : AW} {μ : Paint} {ρ : Store} {Q : Value → AW → Prop} (O : Own h μ ρ) (T : Tbs G ρ) {s : Str} (hs : G s) (hq : RdQ Q ρ (.int .i64 (numM s))) : EvQ P f_action_number [.string s] h Q := T O Fra.refl hs hq
theorem Tbs.none {ρ : Store} : Tbs (fun _ => False) ρ := fun _ _ g => g.elim
end Go.Proofs.YtgdkekdedgkglaaDoor
end

section
/- A line as a statement. -/
namespace Go.Proofs.YtgdkekdedgkglaaDoor
open Go.Abs Go.Abs.Fo
set_option maxRecDepth 100000
attribute [local irreducible] unitAt EvQ
variable {h : AW} {μ : Paint} {ρ : Store} {Q : Value → AW → Prop}

theorem opOf_word {w : Str} (h : opOf w ≠ 0) : wordM (opOf w) = w := by
  unfold opOf at h ⊢
  by_cases e0 : w = wNeed
  · rw [if_pos e0, e0]; rfl
  rw [if_neg e0] at h ⊢
  by_cases e1 : w = wCat
  · rw [if_pos e1, e1]; rfl
  rw [if_neg e1] at h ⊢
  by_cases e2 : w = wText
  · rw [if_pos e2, e2]; rfl
  rw [if_neg e2] at h ⊢
  by_cases e3 : w = wUpper
  · rw [if_pos e3, e3]; rfl
  rw [if_neg e3] at h ⊢
  by_cases e4 : w = wSort
  · rw [if_pos e4, e4]; rfl
  rw [if_neg e4] at h ⊢
  by_cases e5 : w = wUniq
  · rw [if_pos e5, e5]; rfl
  rw [if_neg e5] at h ⊢
  by_cases e6 : w = wCount
  · rw [if_pos e6, e6]; rfl
  rw [if_neg e6] at h ⊢
  by_cases e7 : w = wWrite
  · rw [if_pos e7, e7]; rfl
  rw [if_neg e7] at h ⊢
  by_cases e8 : w = wFail
  · rw [if_pos e8, e8]; rfl
  rw [if_neg e8] at h ⊢
  by_cases e9 : w = wRepeat
  · rw [if_pos e9, e9]; rfl
  rw [if_neg e9] at h ⊢
  by_cases e10 : w = wEach
  · rw [if_pos e10, e10]; rfl
  rw [if_neg e10] at h ⊢
  by_cases e11 : w = wWhen
  · rw [if_pos e11, e11]; rfl
  rw [if_neg e11] at h ⊢
  exact absurd rfl h
theorem word_opOf : ∀ k : Nat, 1 ≤ k → k ≤ 12 → opOf (wordM k) = k
  | 1, _, _ => by decide
  | 2, _, _ => by decide
  | 3, _, _ => by decide
  | 4, _, _ => by decide
  | 5, _, _ => by decide
  | 6, _, _ => by decide
  | 7, _, _ => by decide
  | 8, _, _ => by decide
  | 9, _, _ => by decide
  | 10, _, _ => by decide
  | 11, _, _ => by decide
  | 12, _, _ => by decide
  | 0, h, _ => by omega
  | k + 13, _, h => by omega
theorem opOf_le (w : Str) : opOf w ≤ 12 := by
  have it : ∀ {c : Prop} [Decidable c] {a b : Nat}, a ≤ 12 → b ≤ 12 → (if c then a else b) ≤ 12 := by
    intro c _ a b h1 h2
    split <;> assumption
  unfold opOf
  repeat' refine it (by decide) ?_
  decide
theorem word_iff {w : Str} {k : Nat} (h1 : 1 ≤ k) (h2 : k ≤ 12) : wordM k = w ↔ opOf w = k :=
  ⟨fun e => by rw [← e]; exact word_opOf k h1 h2, fun e => by rw [← e]; exact opOf_word (by omega)⟩
theorem word_ok (O : Own h μ ρ) {k : Nat} (hk : k ≤ 12) (hq : RdQ Q ρ (.string (wordM k))) : EvQ P f_action_word [.int .i64 (k : Int)] h Q := by
  refine r_action_word ?_
  refine w_copy O p00 rfl rfl rfl fun h1 μ1 ρ1 c1 O1 W1 hc1 => ?_
  have F1 : Fra [] ρ ρ1 := W1.fra0 fun c hc => by simp at hc; rw [hc]; exact hc1
  rw [show decide ((k : Int) < 0) = false from decide_eq_false (by omega)]
  simp only [oB_some, bC_true, bC_false, vInt_int, vBool_bool, vStr_string, vPtr_pointer, vSl_slice, vMap_map, vFun_func, vAgg_agg, vTup_tuple, vIfc_nil, vIfc_iface, lC_cons, lN_nil, aP_some, shO_none, shO_some, Option.isNone_none, Option.isNone_some, Bool.not_true, Bool.not_false]
  rw [show decide ((k : Int) ≥ 13) = false from decide_eq_false (by omega)]
  simp only [oB_some, bC_true, bC_false, vInt_int, vBool_bool, vStr_string, vPtr_pointer, vSl_slice, vMap_map, vFun_func, vAgg_agg, vTup_tuple, vIfc_nil, vIfc_iface, lC_cons, lN_nil, aP_some, shO_none, shO_some, Option.isNone_none, Option.isNone_some, Bool.not_true, Bool.not_false]
  rw [natIdx_eq (show k < 13 by omega)]
  simp only [oB_some, bC_true, bC_false, vInt_int, vBool_bool, vStr_string, vPtr_pointer, vSl_slice, vMap_map, vFun_func, vAgg_agg, vTup_tuple, vIfc_nil, vIfc_iface, lC_cons, lN_nil, aP_some, shO_none, shO_some, Option.isNone_none, Option.isNone_some, Bool.not_true, Bool.not_false]
  have hv : (kinds.map Value.string)[k]? = some (.string (wordM k)) := by
    have : wordM (k : Int) = (kinds[k]?).getD e0 := rfl
    rw [this, List.getElem?_map, List.getElem?_eq_getElem (by simp; omega)]; rfl
  rw [show 0 + k * 1 = k from by omega]
  refine w_rd O1 W1 0 rfl hv ?_
  simp only [oB_some, bC_true, bC_false, vInt_int, vBool_bool, vStr_string, vPtr_pointer, vSl_slice, vMap_map, vFun_func, vAgg_agg, vTup_tuple, vIfc_nil, vIfc_iface, lC_cons, lN_nil, aP_some, shO_none, shO_some, Option.isNone_none, Option.isNone_some, Bool.not_true, Bool.not_false]
  exact hq _ _ _ O1 F1
theorem clone_vw (O : Own h μ ρ) {a : Option Addr} {x : List Str} {cap : Nat} (X : Vw ρ [] a (strs x)) (hx : x.length ≤ 1000000000) (hq : NewS Q ρ x) :
    EvQ P f_slices_Clone_sl_string_string [.slice a x.length cap] h Q := by
  rcases X with ⟨rfl, e⟩ | X
  · have : x = [] := by simpa using e
    subst this
    refine r_slices_Clone_sl_string_string ?_
    simp only [oB_some, bC_true, bC_false, vInt_int, vBool_bool, vStr_string, vPtr_pointer, vSl_slice, vMap_map, vFun_func, vAgg_agg, vTup_tuple, vIfc_nil, vIfc_iface, lC_cons, lN_nil, aP_some, shO_none, shO_some, Option.isNone_none, Option.isNone_some, Bool.not_true, Bool.not_false]
    exact new_nil O hq
  · exact clone_ok O X hx hq
/-- A statement comes back, its words in a slice of its own. -/
def NewX (Q : Value → AW → Prop) (ρ : Store) (x : X) : Prop :=
  ∀ h' μ' ρ' co oa oc, Own h' μ' ρ' → Pcs ρ ρ' [co] [.sl oa oc 1 (strs x.args)] → ρ co = none →
    Q (.tuple ⟨[.agg ⟨[.int .i64 x.op, .slice oa x.args.length oc, .int .i64 x.n, .slice none 0 0]⟩, .bool x.ok]⟩) h'
theorem NewX.none {x : X} (hq : NewX Q ρ x) (e : x.args = []) {ρ' : Store} {μ' : Paint} {h' : AW} (O' : Own h' μ' ρ') (F : Fra [] ρ ρ') :
    Q (.tuple ⟨[.agg ⟨[.int .i64 x.op, .slice Option.none 0 0, .int .i64 x.n, .slice Option.none 0 0]⟩, .bool x.ok]⟩) h' := by
  obtain ⟨ρ1, c1, O1, W1, hc1⟩ := w_nil O' (Pcs.mk (ρ0 := ρ) (ns := []) (rs := []) List.nodup_nil rfl (by intro i c r h; simp at h) F) 1
  have := hq h' μ' ρ1 c1 Option.none 0 O1 (by rw [e]; exact W1) hc1
  rw [e] at this
  exact this
theorem stmtM_ne {w : Str} {args : List Str} (e : opOf w ≠ 10) : stmtM (w :: args) = ⟨opOf w, args, 0, decide (0 < opOf w) && fitsM (opOf w) args.length⟩ := by
  show (if opOf w = 10 then _ else _) = _
  rw [if_neg e]
theorem stmtM_one {w s : Str} (e : opOf w = 10) : stmtM [w, s] = ⟨10, [], numM s, decide (numM s ≥ 0)⟩ := by
  show (if opOf w = 10 then _ else _) = _
  rw [if_pos e]
theorem stmtM_bad {w : Str} {args : List Str} (e : opOf w = 10) (h : args.length ≠ 1) : stmtM (w :: args) = ⟨0, [], 0, false⟩ := by
  show (if opOf w = 10 then _ else _) = _
  rw [if_pos e]
  match args, h with
  | [], _ => rfl
  | [s], h => exact absurd rfl h
  | _ :: _ :: _, _ => rfl
theorem stmt_loop {G : Str → Prop} (T : Tbs G ρ) {w : Str} {args : List Str} {a : Option Addr} {cap : Nat} (V : Vw ρ [] a (strs (w :: args))) (hc : (w :: args).length ≤ cap) (hl : args.length ≤ 1000000) (hs : ∀ s, args = [s] → opOf w = 10 → G s) (hq : NewX Q ρ (stmtM (w :: args))) :
    ∀ (d k : Nat) {h : AW} {μ : Paint} {ρ' : Store} {p5 p4 c5 c4 : Nat}, 13 - k = d → 1 ≤ k → k ≤ 13 → Own h μ ρ' → Pcs ρ ρ' [c5, c4] [.var p5 [.int .i64 ((if opOf w < k then opOf w else 0 : Nat) : Int), .slice none 0 0, .int .i64 0, .slice none 0 0], .var p4 [.int .i64 0, .slice none 0 0, .int .i64 0, .slice none 0 0]] → ρ c5 = none → ρ c4 = none →
      unitAt P f_action_stmt 5 [0, 2, 4, 5] [.slice a (w :: args).length cap, .pointer (some ⟨p4, 0, none⟩), .pointer (some ⟨p5, 0, none⟩), .int .i64 (k : Int)] h Q := by
  intro d
  induction d with
  | zero =>
    intro k h μ ρ' p5 p4 c5 c4 hd h1 hk O W hc5 hc4
    have : k = 13 := by omega
    subst this
    have F : Fra [] ρ ρ' := W.fra0 fun c hc => by
      simp at hc; rcases hc with rfl | rfl <;> assumption
    have hop := opOf_le w
    rw [if_pos (by omega)] at W
    refine r_action_stmt_5 ?_
    rw [show decide (((13 : Nat) : Int) ≤ 12) = false from rfl]
    simp only [oB_some, bC_true, bC_false, vInt_int, vBool_bool, vStr_string, vPtr_pointer, vSl_slice, vMap_map, vFun_func, vAgg_agg, vTup_tuple, vIfc_nil, vIfc_iface, lC_cons, lN_nil, aP_some, shO_none, shO_some, Option.isNone_none, Option.isNone_some, Bool.not_true, Bool.not_false]
    rw [show natBnd 1 (w :: args).length = some 1 from natBnd_eq (j := 1) (by simp)]
    simp only [oB_some, bC_true, bC_false, vInt_int, vBool_bool, vStr_string, vPtr_pointer, vSl_slice, vMap_map, vFun_func, vAgg_agg, vTup_tuple, vIfc_nil, vIfc_iface, lC_cons, lN_nil, aP_some, shO_none, shO_some, Option.isNone_none, Option.isNone_some, Bool.not_true, Bool.not_false]
    rw [Nat.ble_eq_true_of_le hc]
    simp only [oB_some, bC_true, bC_false, vInt_int, vBool_bool, vStr_string, vPtr_pointer, vSl_slice, vMap_map, vFun_func, vAgg_agg, vTup_tuple, vIfc_nil, vIfc_iface, lC_cons, lN_nil, aP_some, shO_none, shO_some, Option.isNone_none, Option.isNone_some, Bool.not_true, Bool.not_false]
    obtain ⟨a', ea, V'⟩ := (V.keep F).drop (1 * 1)
    rw [ea]
    have V' : Vw ρ' [] a' (strs args) := V'
    have hlen : (w :: args).length - 1 = args.length := by simp
    rw [hlen]
    repeat (first | refine ⟨rfl, ?_⟩ | refine ⟨trivial, ?_⟩ | simp only [oB_some, bC_true, bC_false, vInt_int, vBool_bool, vStr_string, vPtr_pointer, vSl_slice, vMap_map, vFun_func, vAgg_agg, vTup_tuple, vIfc_nil, vIfc_iface, lC_cons, lN_nil, aP_some, shO_none, shO_some, Option.isNone_none, Option.isNone_some, Bool.not_true, Bool.not_false] | refine w_rd (by assumption) (by assumption) 0 (by rfl) (by rfl) ?_ | refine w_rd (by assumption) (by assumption) 1 (by rfl) (by rfl) ?_ | refine w_wrL (by assumption) (by assumption) 0 (by rfl) (Nat.le_of_ble_eq_true (by rfl)) (by rfl) fun h ρz O W => ?_ | refine w_wrL (by assumption) (by assumption) 1 (by rfl) (Nat.le_of_ble_eq_true (by rfl)) (by rfl) fun h ρz O W => ?_ | refine w_wr (by assumption) (by assumption) 0 (by rfl) (Nat.le_of_ble_eq_true (by rfl)) (by rfl) fun h ρz O W => ?_ | refine w_wr (by assumption) (by assumption) 1 (by rfl) (Nat.le_of_ble_eq_true (by rfl)) (by rfl) fun h ρz O W => ?_)
    refine bC_iff (fun e => ?_) (fun e => ?_)
    · have e : opOf w = 10 := by have := eqI e; omega
      refine bC_iff (fun e2 => ?_) (fun e2 => ?_)
      · rw [stmtM_bad e (by simp at e2; omega)] at hq
        repeat (first | refine ⟨rfl, ?_⟩ | refine ⟨trivial, ?_⟩ | simp only [oB_some, bC_true, bC_false, vInt_int, vBool_bool, vStr_string, vPtr_pointer, vSl_slice, vMap_map, vFun_func, vAgg_agg, vTup_tuple, vIfc_nil, vIfc_iface, lC_cons, lN_nil, aP_some, shO_none, shO_some, Option.isNone_none, Option.isNone_some, Bool.not_true, Bool.not_false] | refine w_rd (by assumption) (by assumption) 0 (by rfl) (by rfl) ?_ | refine w_rd (by assumption) (by assumption) 1 (by rfl) (by rfl) ?_ | refine w_wrL (by assumption) (by assumption) 0 (by rfl) (Nat.le_of_ble_eq_true (by rfl)) (by rfl) fun h ρz O W => ?_ | refine w_wrL (by assumption) (by assumption) 1 (by rfl) (Nat.le_of_ble_eq_true (by rfl)) (by rfl) fun h ρz O W => ?_ | refine w_wr (by assumption) (by assumption) 0 (by rfl) (Nat.le_of_ble_eq_true (by rfl)) (by rfl) fun h ρz O W => ?_ | refine w_wr (by assumption) (by assumption) 1 (by rfl) (Nat.le_of_ble_eq_true (by rfl)) (by rfl) fun h ρz O W => ?_)
        exact hq.none rfl (by assumption) (Pcs.fra0 (by assumption) fun c hc => by
          simp at hc; rcases hc with rfl | rfl <;> assumption)
      · obtain ⟨s, rfl⟩ : ∃ s, args = [s] := by
          match args, e2 with
          | [], e2 => simp at e2
          | [s], _ => exact ⟨s, rfl⟩
          | _ :: _ :: _, e2 => simp at e2; omega
        rw [stmtM_one e] at hq
        refine wd_at (j := 0) O V' rfl rfl (by simp) ?_
        refine number_ok O (T.keep F) (hs _ rfl e) fun h2 μ2 ρ2 O2 F2 => ?_
        have W := W.keep0 F2
        rw [e] at W
        repeat (first | refine ⟨rfl, ?_⟩ | refine ⟨trivial, ?_⟩ | simp only [oB_some, bC_true, bC_false, vInt_int, vBool_bool, vStr_string, vPtr_pointer, vSl_slice, vMap_map, vFun_func, vAgg_agg, vTup_tuple, vIfc_nil, vIfc_iface, lC_cons, lN_nil, aP_some, shO_none, shO_some, Option.isNone_none, Option.isNone_some, Bool.not_true, Bool.not_false] | refine w_rd (by assumption) (by assumption) 0 (by rfl) (by rfl) ?_ | refine w_rd (by assumption) (by assumption) 1 (by rfl) (by rfl) ?_ | refine w_wrL (by assumption) (by assumption) 0 (by rfl) (Nat.le_of_ble_eq_true (by rfl)) (by rfl) fun h ρz O W => ?_ | refine w_wrL (by assumption) (by assumption) 1 (by rfl) (Nat.le_of_ble_eq_true (by rfl)) (by rfl) fun h ρz O W => ?_ | refine w_wr (by assumption) (by assumption) 0 (by rfl) (Nat.le_of_ble_eq_true (by rfl)) (by rfl) fun h ρz O W => ?_ | refine w_wr (by assumption) (by assumption) 1 (by rfl) (Nat.le_of_ble_eq_true (by rfl)) (by rfl) fun h ρz O W => ?_)
        exact hq.none rfl (by assumption) (Pcs.fra0 (by assumption) fun c hc => by
          simp at hc; rcases hc with rfl | rfl <;> assumption)
    · have e : opOf w ≠ 10 := by have := neI e; omega
      rw [stmtM_ne e] at hq
      refine clone_vw O V' (by omega) fun h2 μ2 ρ2 co oa oc O2 W2 hco => ?_
      have W := W.adopt W2 hco
      have hco0 := F.none0 hco
      repeat (first | refine ⟨rfl, ?_⟩ | refine ⟨trivial, ?_⟩ | simp only [oB_some, bC_true, bC_false, vInt_int, vBool_bool, vStr_string, vPtr_pointer, vSl_slice, vMap_map, vFun_func, vAgg_agg, vTup_tuple, vIfc_nil, vIfc_iface, lC_cons, lN_nil, aP_some, shO_none, shO_some, Option.isNone_none, Option.isNone_some, Bool.not_true, Bool.not_false] | refine w_rd (by assumption) (by assumption) 0 (by rfl) (by rfl) ?_ | refine w_rd (by assumption) (by assumption) 1 (by rfl) (by rfl) ?_ | refine w_rd (by assumption) (by assumption) 2 (by rfl) (by rfl) ?_ | refine w_wrL (by assumption) (by assumption) 0 (by rfl) (Nat.le_of_ble_eq_true (by rfl)) (by rfl) fun h ρz O W => ?_ | refine w_wrL (by assumption) (by assumption) 1 (by rfl) (Nat.le_of_ble_eq_true (by rfl)) (by rfl) fun h ρz O W => ?_ | refine w_wrL (by assumption) (by assumption) 2 (by rfl) (Nat.le_of_ble_eq_true (by rfl)) (by rfl) fun h ρz O W => ?_ | refine w_wr (by assumption) (by assumption) 0 (by rfl) (Nat.le_of_ble_eq_true (by rfl)) (by rfl) fun h ρz O W => ?_ | refine w_wr (by assumption) (by assumption) 1 (by rfl) (Nat.le_of_ble_eq_true (by rfl)) (by rfl) fun h ρz O W => ?_ | refine w_wr (by assumption) (by assumption) 2 (by rfl) (Nat.le_of_ble_eq_true (by rfl)) (by rfl) fun h ρz O W => ?_)
      refine bC_iff (fun e2 => ?_) (fun e2 => ?_)
      · have e2 := of_decide_eq_true e2
        rw [show decide (0 < opOf w) = true from decide_eq_true (by omega), Bool.true_and] at hq
        repeat (first | refine ⟨rfl, ?_⟩ | refine ⟨trivial, ?_⟩ | simp only [oB_some, bC_true, bC_false, vInt_int, vBool_bool, vStr_string, vPtr_pointer, vSl_slice, vMap_map, vFun_func, vAgg_agg, vTup_tuple, vIfc_nil, vIfc_iface, lC_cons, lN_nil, aP_some, shO_none, shO_some, Option.isNone_none, Option.isNone_some, Bool.not_true, Bool.not_false] | refine w_rd (by assumption) (by assumption) 0 (by rfl) (by rfl) ?_ | refine w_rd (by assumption) (by assumption) 1 (by rfl) (by rfl) ?_ | refine w_rd (by assumption) (by assumption) 2 (by rfl) (by rfl) ?_ | refine w_wrL (by assumption) (by assumption) 0 (by rfl) (Nat.le_of_ble_eq_true (by rfl)) (by rfl) fun h ρz O W => ?_ | refine w_wrL (by assumption) (by assumption) 1 (by rfl) (Nat.le_of_ble_eq_true (by rfl)) (by rfl) fun h ρz O W => ?_ | refine w_wrL (by assumption) (by assumption) 2 (by rfl) (Nat.le_of_ble_eq_true (by rfl)) (by rfl) fun h ρz O W => ?_ | refine w_wr (by assumption) (by assumption) 0 (by rfl) (Nat.le_of_ble_eq_true (by rfl)) (by rfl) fun h ρz O W => ?_ | refine w_wr (by assumption) (by assumption) 1 (by rfl) (Nat.le_of_ble_eq_true (by rfl)) (by rfl) fun h ρz O W => ?_ | refine w_wr (by assumption) (by assumption) 2 (by rfl) (Nat.le_of_ble_eq_true (by rfl)) (by rfl) fun h ρz O W => ?_)
        refine fits_ok ?_
        repeat (first | refine ⟨rfl, ?_⟩ | refine ⟨trivial, ?_⟩ | simp only [oB_some, bC_true, bC_false, vInt_int, vBool_bool, vStr_string, vPtr_pointer, vSl_slice, vMap_map, vFun_func, vAgg_agg, vTup_tuple, vIfc_nil, vIfc_iface, lC_cons, lN_nil, aP_some, shO_none, shO_some, Option.isNone_none, Option.isNone_some, Bool.not_true, Bool.not_false] | refine w_rd (by assumption) (by assumption) 0 (by rfl) (by rfl) ?_ | refine w_rd (by assumption) (by assumption) 1 (by rfl) (by rfl) ?_ | refine w_rd (by assumption) (by assumption) 2 (by rfl) (by rfl) ?_ | refine w_wrL (by assumption) (by assumption) 0 (by rfl) (Nat.le_of_ble_eq_true (by rfl)) (by rfl) fun h ρz O W => ?_ | refine w_wrL (by assumption) (by assumption) 1 (by rfl) (Nat.le_of_ble_eq_true (by rfl)) (by rfl) fun h ρz O W => ?_ | refine w_wrL (by assumption) (by assumption) 2 (by rfl) (Nat.le_of_ble_eq_true (by rfl)) (by rfl) fun h ρz O W => ?_ | refine w_wr (by assumption) (by assumption) 0 (by rfl) (Nat.le_of_ble_eq_true (by rfl)) (by rfl) fun h ρz O W => ?_ | refine w_wr (by assumption) (by assumption) 1 (by rfl) (Nat.le_of_ble_eq_true (by rfl)) (by rfl) fun h ρz O W => ?_ | refine w_wr (by assumption) (by assumption) 2 (by rfl) (Nat.le_of_ble_eq_true (by rfl)) (by rfl) fun h ρz O W => ?_)
        refine hq _ _ _ co oa oc (by assumption) (Pcs.tail2 (Pcs.tail2 (by assumption) hc5) hc4) hco0
      · have e2 := of_decide_eq_false e2
        rw [show decide (0 < opOf w) = false from decide_eq_false (by omega), Bool.false_and] at hq
        repeat (first | refine ⟨rfl, ?_⟩ | refine ⟨trivial, ?_⟩ | simp only [oB_some, bC_true, bC_false, vInt_int, vBool_bool, vStr_string, vPtr_pointer, vSl_slice, vMap_map, vFun_func, vAgg_agg, vTup_tuple, vIfc_nil, vIfc_iface, lC_cons, lN_nil, aP_some, shO_none, shO_some, Option.isNone_none, Option.isNone_some, Bool.not_true, Bool.not_false] | refine w_rd (by assumption) (by assumption) 0 (by rfl) (by rfl) ?_ | refine w_rd (by assumption) (by assumption) 1 (by rfl) (by rfl) ?_ | refine w_rd (by assumption) (by assumption) 2 (by rfl) (by rfl) ?_ | refine w_wrL (by assumption) (by assumption) 0 (by rfl) (Nat.le_of_ble_eq_true (by rfl)) (by rfl) fun h ρz O W => ?_ | refine w_wrL (by assumption) (by assumption) 1 (by rfl) (Nat.le_of_ble_eq_true (by rfl)) (by rfl) fun h ρz O W => ?_ | refine w_wrL (by assumption) (by assumption) 2 (by rfl) (Nat.le_of_ble_eq_true (by rfl)) (by rfl) fun h ρz O W => ?_ | refine w_wr (by assumption) (by assumption) 0 (by rfl) (Nat.le_of_ble_eq_true (by rfl)) (by rfl) fun h ρz O W => ?_ | refine w_wr (by assumption) (by assumption) 1 (by rfl) (Nat.le_of_ble_eq_true (by rfl)) (by rfl) fun h ρz O W => ?_ | refine w_wr (by assumption) (by assumption) 2 (by rfl) (Nat.le_of_ble_eq_true (by rfl)) (by rfl) fun h ρz O W => ?_)
        have := hq _ _ _ co oa oc (by assumption) (Pcs.tail2 (Pcs.tail2 (by assumption) hc5) hc4) hco0
        exact this
  | succ d ih =>
    intro k h μ ρ' p5 p4 c5 c4 hd h1 hk O W hc5 hc4
    have F : Fra [] ρ ρ' := W.fra0 fun c hc => by
      simp at hc; rcases hc with rfl | rfl <;> assumption
    refine r_action_stmt_5 ?_
    rw [show decide ((k : Int) ≤ 12) = true from decide_eq_true (by omega)]
    simp only [oB_some, bC_true, bC_false, vInt_int, vBool_bool, vStr_string, vPtr_pointer, vSl_slice, vMap_map, vFun_func, vAgg_agg, vTup_tuple, vIfc_nil, vIfc_iface, lC_cons, lN_nil, aP_some, shO_none, shO_some, Option.isNone_none, Option.isNone_some, Bool.not_true, Bool.not_false]
    refine word_ok O (by omega) fun h2 μ2 ρ2 O2 F2 => ?_
    simp only [oB_some, bC_true, bC_false, vInt_int, vBool_bool, vStr_string, vPtr_pointer, vSl_slice, vMap_map, vFun_func, vAgg_agg, vTup_tuple, vIfc_nil, vIfc_iface, lC_cons, lN_nil, aP_some, shO_none, shO_some, Option.isNone_none, Option.isNone_some, Bool.not_true, Bool.not_false]
    have W2 := W.keep0 F2
    refine ((V.keep (F.trans F2)).sl O2).ix (sz := 1) (j := 0) rfl (by simp) (by omega) (by simp) fun i off ea _ => ?_
    subst ea
    have g2 : h2.rd i (off + 0) = some (.string w) := Sl.get (j := 0) ((V.keep (F.trans F2)).sl O2) rfl
    have g1 : h.rd i (off + 0) = some (.string w) := Sl.get (j := 0) ((V.keep F).sl O) rfl
    refine oB_bind g2 ?_
    simp only [oB_some, bC_true, bC_false, vInt_int, vBool_bool, vStr_string, vPtr_pointer, vSl_slice, vMap_map, vFun_func, vAgg_agg, vTup_tuple, vIfc_nil, vIfc_iface, lC_cons, lN_nil, aP_some, shO_none, shO_some, Option.isNone_none, Option.isNone_some, Bool.not_true, Bool.not_false]
    refine oB_bind g1 ?_
    simp only [oB_some, bC_true, bC_false, vInt_int, vBool_bool, vStr_string, vPtr_pointer, vSl_slice, vMap_map, vFun_func, vAgg_agg, vTup_tuple, vIfc_nil, vIfc_iface, lC_cons, lN_nil, aP_some, shO_none, shO_some, Option.isNone_none, Option.isNone_some, Bool.not_true, Bool.not_false]
    refine ⟨by trivial, ?_⟩
    rw [wrapS (by omega)]
    refine bC_iff (fun e => ?_) (fun e => ?_)
    · have e : opOf w = k := (word_iff h1 (by omega)).1 (bEq_iff.1 e)
      refine w_wr O2 W2 0 (j := 0) rfl (by simp) rfl fun h3 ρ3 O3 W3 => ?_
      refine ih (k + 1) (by omega) (by omega) (by omega) O3 (W3.eq ?_) hc5 hc4
      rw [show (if opOf w < k + 1 then opOf w else 0) = k from by rw [if_pos (by omega), e]]; rfl
    · have e : opOf w ≠ k := fun e2 => bEq_false.1 e ((word_iff h1 (by omega)).2 e2)
      refine ih (k + 1) (by omega) (by omega) (by omega) O2 (W2.eq ?_) hc5 hc4
      by_cases hlt : opOf w < k
      · rw [if_pos hlt, if_pos (by omega)]
      · rw [if_neg hlt, if_neg (by omega)]
theorem stmt_ok {G : Str → Prop} (O : Own h μ ρ) (T : Tbs G ρ) {x : List Str} {a : Option Addr} {cap : Nat} (V : Vw ρ [] a (strs x)) (hc : x.length ≤ cap) (hl : x.length ≤ 1000000) (hs : ∀ w s, x = [w, s] → opOf w = 10 → G s) (hq : NewX Q ρ (stmtM x)) :
    EvQ P f_action_stmt [.slice a x.length cap] h Q := by
  refine r_action_stmt ?_
  cases x with
  | nil =>
    rw [show (((([] : List Str).length : Nat) : Int) == 0) = true from rfl]
    simp only [oB_some, bC_true, bC_false, vInt_int, vBool_bool, vStr_string, vPtr_pointer, vSl_slice, vMap_map, vFun_func, vAgg_agg, vTup_tuple, vIfc_nil, vIfc_iface, lC_cons, lN_nil, aP_some, shO_none, shO_some, Option.isNone_none, Option.isNone_some, Bool.not_true, Bool.not_false]
    refine w_copy O p00 rfl rfl rfl fun h1 μ1 ρ1 c1 O1 W1 hc1 => ?_
    repeat (first | refine ⟨rfl, ?_⟩ | refine ⟨trivial, ?_⟩ | simp only [oB_some, bC_true, bC_false, vInt_int, vBool_bool, vStr_string, vPtr_pointer, vSl_slice, vMap_map, vFun_func, vAgg_agg, vTup_tuple, vIfc_nil, vIfc_iface, lC_cons, lN_nil, aP_some, shO_none, shO_some, Option.isNone_none, Option.isNone_some, Bool.not_true, Bool.not_false] | refine w_rd (by assumption) (by assumption) 0 (by rfl) (by rfl) ?_ | refine w_rd (by assumption) (by assumption) 1 (by rfl) (by rfl) ?_ | refine w_wrL (by assumption) (by assumption) 0 (by rfl) (Nat.le_of_ble_eq_true (by rfl)) (by rfl) fun h ρz O W => ?_ | refine w_wrL (by assumption) (by assumption) 1 (by rfl) (Nat.le_of_ble_eq_true (by rfl)) (by rfl) fun h ρz O W => ?_ | refine w_wr (by assumption) (by assumption) 0 (by rfl) (Nat.le_of_ble_eq_true (by rfl)) (by rfl) fun h ρz O W => ?_ | refine w_wr (by assumption) (by assumption) 1 (by rfl) (Nat.le_of_ble_eq_true (by rfl)) (by rfl) fun h ρz O W => ?_)
    exact hq.none rfl (by assumption) (Pcs.fra0 (by assumption) fun c hc => by
      simp at hc; rw [hc]; exact hc1)
  | cons w args =>
    rw [show ((((w :: args).length : Nat) : Int) == 0) = false from by simp; omega]
    simp only [oB_some, bC_true, bC_false, vInt_int, vBool_bool, vStr_string, vPtr_pointer, vSl_slice, vMap_map, vFun_func, vAgg_agg, vTup_tuple, vIfc_nil, vIfc_iface, lC_cons, lN_nil, aP_some, shO_none, shO_some, Option.isNone_none, Option.isNone_some, Bool.not_true, Bool.not_false]
    obtain ⟨μ1, ρ1, c1, O1, W1, hc1⟩ := w_new O p00 [.int .i64 0, .slice none 0 0, .int .i64 0, .slice none 0 0]
    refine w_copy O1 W1 rfl rfl rfl fun h2 μ2 ρ2 c2 O2 W2 hc2 => ?_
    refine stmt_loop T V hc (by simp at hl; omega) (fun s h => hs w s (by rw [h])) hq _ 1 rfl (by omega) (by omega) O2 (W2.eq ?_) hc2 hc1
    by_cases hlt : opOf w < 1
    · rw [if_pos hlt, show opOf w = 0 by omega]; rfl
    · rw [if_neg hlt]; rfl
end Go.Proofs.YtgdkekdedgkglaaDoor
end

section
/- Reading lines of words: the walk. -/
namespace Go.Proofs.YtgdkekdedgkglaaDoor
open Go.Abs Go.Abs.Fo
set_option maxRecDepth 100000
attribute [local irreducible] unitAt EvQ
variable {h : AW} {μ : Paint} {ρ : Store} {Q : Value → AW → Prop}

abbrev ptr0 (p : Nat) : Value := .pointer (some ⟨p, 0, none⟩)
/-- What stands by a reader of lines. -/
abbrev stR (pf pn pb pm pa pl : Nat) (a : Option Addr) (N cap : Nat) (s : PS) : List Res :=
  [.var pf [.func (.func f_action_Parse_fn2) ⟨[]⟩ ⟨[ptr0 pb, ptr0 pn, ptr0 pa, ptr0 pm, ptr0 pf]⟩], .var pn [.func (.func f_action_Parse_fn1) ⟨[]⟩ ⟨[ptr0 pa, ptr0 pl]⟩], .var pb [.int .i64 s.err, .int .i64 s.bad], .var pm [.int .i64 (s.many : Int)], .var pa [.int .i64 (s.i : Int)], .var pl [.slice a N cap]]
/-- A statement joins the others. -/
theorem app_x (O : Own h μ ρ) {ρ1 : Store} {cx co cm : Nat} {ns : List Nat} {px : Nat} {op n : Int} {aa ba oa : Option Addr} {an ac bn bc oc : Nat} {cells : List Value} {vs : List (Option Addr × Nat × Nat × List Value)} {rs : List Res} {facc : F} {deep pf pn pb pm pa : Nat}
    (W : Pcs ρ1 ρ (cx :: co :: cm :: ns) (.var px [.int .i64 op, .slice aa an ac, .int .i64 n, .slice ba bn bc] :: .sl oa oc 4 cells :: .many vs :: rs)) (hcx : ρ1 cx = none) (hlen : cells.length = facc.len * 4) (hsm : facc.len ≤ 1000000)
    (H : ∀ h' μ' ρ' oa' oc', Own h' μ' ρ' → Pcs ρ1 ρ' (co :: cm :: ns) (.sl oa' oc' 4 (cells ++ [.int .i64 op, .slice aa an ac, .int .i64 n, .slice ba bn bc]) :: .many vs :: rs) →
      unitAt P f_action_Parse_fn2 2 [0, 1, 2, 3, 4, 5, 8] [.int .i64 (deep : Int), ptr0 pb, ptr0 pn, ptr0 pa, ptr0 pm, ptr0 pf, .slice oa' (facc.len + 1) oc'] h' Q) :
    oB (AW.rd h px 0) fun v75 => vInt IntKind.i64 v75 fun n76 => oB (AW.rd h px 1) fun v77 => vSl v77 fun p78 m79 m80 => oB (AW.rd h px 2) fun v81 => vInt IntKind.i64 v81 fun n82 => oB (AW.rd h
      px 3) fun v83 => vSl v83 fun p84 m85 m86 => oP (appendB P (AW.addVar h [Value.int IntKind.i64 n76, Value.slice p78 m79 m80, Value.int IntKind.i64 n82, Value.slice p84 m85 m86])
      (Array.mk [ty_sl_api_Stmt, ty_sl_api_Stmt]) [Value.slice oa facc.len oc, Value.slice (some (Addr.mk (AW.next h) 0 none)) 1 1]) fun v87 h88 => vSl v87 fun p89 m90 m91 => unitAt P
      f_action_Parse_fn2 2 [0, 1, 2, 3, 4, 5, 8] [Value.int IntKind.i64 (deep : Int), Value.pointer (some (Addr.mk pb 0 none)), Value.pointer (some (Addr.mk pn 0 none)), Value.pointer (some
      (Addr.mk pa 0 none)), Value.pointer (some (Addr.mk pm 0 none)), Value.pointer (some (Addr.mk pf 0 none)), Value.slice p89 m90 m91] h88 Q := by
  refine w_rd O W 0 rfl rfl ?_
  simp only [oB_some, bC_true, bC_false, vInt_int, vBool_bool, vStr_string, vPtr_pointer, vSl_slice, vMap_map, vFun_func, vAgg_agg, vTup_tuple, vIfc_nil, vIfc_iface, lC_cons, lN_nil, aP_some, shO_none, shO_some, Option.isNone_none, Option.isNone_some, Bool.not_true, Bool.not_false]
  refine w_rd O W 0 rfl rfl ?_
  simp only [oB_some, bC_true, bC_false, vInt_int, vBool_bool, vStr_string, vPtr_pointer, vSl_slice, vMap_map, vFun_func, vAgg_agg, vTup_tuple, vIfc_nil, vIfc_iface, lC_cons, lN_nil, aP_some, shO_none, shO_some, Option.isNone_none, Option.isNone_some, Bool.not_true, Bool.not_false]
  refine w_rd O W 0 rfl rfl ?_
  simp only [oB_some, bC_true, bC_false, vInt_int, vBool_bool, vStr_string, vPtr_pointer, vSl_slice, vMap_map, vFun_func, vAgg_agg, vTup_tuple, vIfc_nil, vIfc_iface, lC_cons, lN_nil, aP_some, shO_none, shO_some, Option.isNone_none, Option.isNone_some, Bool.not_true, Bool.not_false]
  refine w_rd O W 0 rfl rfl ?_
  simp only [oB_some, bC_true, bC_false, vInt_int, vBool_bool, vStr_string, vPtr_pointer, vSl_slice, vMap_map, vFun_func, vAgg_agg, vTup_tuple, vIfc_nil, vIfc_iface, lC_cons, lN_nil, aP_some, shO_none, shO_some, Option.isNone_none, Option.isNone_some, Bool.not_true, Bool.not_false]
  obtain ⟨μ1, ρ2, c1, O1, W1, hc1⟩ := w_block O W [.int .i64 op, .slice aa an ac, .int .i64 n, .slice ba bn bc] (n := 1) (sz := 4) rfl rfl
  refine w_app (P := P) O1 W1 2 (n := facc.len) (m := 1) ti_ty_sl_api_Stmt ti_ty_api_Stmt (by decide) rfl hlen (w_sl O1 W1 0 rfl) rfl rfl (by omega) (by omega) fun oa' oc' h2 μ2 ρ3 O2 W2 => ?_
  simp only [oB_some, bC_true, bC_false, vInt_int, vBool_bool, vStr_string, vPtr_pointer, vSl_slice, vMap_map, vFun_func, vAgg_agg, vTup_tuple, vIfc_nil, vIfc_iface, lC_cons, lN_nil, aP_some, shO_none, shO_some, Option.isNone_none, Option.isNone_some, Bool.not_true, Bool.not_false]
  exact H _ _ _ _ _ O2 ((W2.tail hc1).tail hcx)

theorem bd_nil {n deep : Nat} {s : PS} (he : s.err = 0) : bd (n + 1) deep [] s = (.nil, [], if deep > 0 then { s with err := 131, bad := s.i } else s) := by
  rw [bd, if_neg (by simp [he])]
theorem bd_end {n deep : Nat} {r : List Line} {s : PS} (he : s.err = 0) : bd (n + 1) deep ([wEnd] :: r) s = (.nil, r, if deep = 0 then { s with i := s.i + 1, err := 131, bad := s.i } else { s with i := s.i + 1 }) := by
  rw [bd, if_neg (by simp [he])]
  simp only
  rw [if_pos trivial]
theorem bd_bad {n deep : Nat} {l : Line} {r : List Line} {s : PS} (he : s.err = 0) (hl : l ≠ [wEnd]) (hx : (stmtM l).ok = false) : bd (n + 1) deep (l :: r) s = (.cons (stmtM l).op (stmtM l).args (stmtM l).n .nil .nil, r, ⟨s.i + 1, s.many + 1, 130, s.i⟩) := by
  rw [bd, if_neg (by simp [he])]
  simp only
  rw [if_neg hl, if_pos hx]
theorem bd_long {n deep : Nat} {l : Line} {r : List Line} {s : PS} (he : s.err = 0) (hl : l ≠ [wEnd]) (hx : (stmtM l).ok = true) (hm : s.many + 1 > 256) : bd (n + 1) deep (l :: r) s = (.cons (stmtM l).op (stmtM l).args (stmtM l).n .nil .nil, r, ⟨s.i + 1, s.many + 1, 3, s.i⟩) := by
  rw [bd, if_neg (by simp [he])]
  simp only
  rw [if_neg hl, if_neg (by simp [hx]), if_pos hm]
theorem bd_deep {n : Nat} {l : Line} {r : List Line} {s : PS} (he : s.err = 0) (hl : l ≠ [wEnd]) (hx : (stmtM l).ok = true) (hm : ¬ s.many + 1 > 256) (ho : opensM (stmtM l).op = true) : bd (n + 1) 8 (l :: r) s = (.cons (stmtM l).op (stmtM l).args (stmtM l).n .nil .nil, r, ⟨s.i + 1, s.many + 1, 132, s.i⟩) := by
  rw [bd, if_neg (by simp [he])]
  simp only
  rw [if_neg hl, if_neg (by simp [hx]), if_neg hm, if_pos ho, if_pos trivial]
theorem bd_open {n deep : Nat} {l : Line} {r : List Line} {s : PS} (he : s.err = 0) (hl : l ≠ [wEnd]) (hx : (stmtM l).ok = true) (hm : ¬ s.many + 1 > 256) (ho : opensM (stmtM l).op = true) (hd : deep ≠ 8) :
    bd (n + 1) deep (l :: r) s = (.cons (stmtM l).op (stmtM l).args (stmtM l).n (bd n (deep + 1) r ⟨s.i + 1, s.many + 1, 0, s.bad⟩).1 (bd n deep (bd n (deep + 1) r ⟨s.i + 1, s.many + 1, 0, s.bad⟩).2.1 (bd n (deep + 1) r ⟨s.i + 1, s.many + 1, 0, s.bad⟩).2.2).1,
      (bd n deep (bd n (deep + 1) r ⟨s.i + 1, s.many + 1, 0, s.bad⟩).2.1 (bd n (deep + 1) r ⟨s.i + 1, s.many + 1, 0, s.bad⟩).2.2).2.1, (bd n deep (bd n (deep + 1) r ⟨s.i + 1, s.many + 1, 0, s.bad⟩).2.1 (bd n (deep + 1) r ⟨s.i + 1, s.many + 1, 0, s.bad⟩).2.2).2.2) := by
  rw [bd, if_neg (by simp [he])]
  simp only
  rw [if_neg hl, if_neg (by simp [hx]), if_neg hm, if_pos ho, if_neg hd]
theorem bd_plain {n deep : Nat} {l : Line} {r : List Line} {s : PS} (he : s.err = 0) (hl : l ≠ [wEnd]) (hx : (stmtM l).ok = true) (hm : ¬ s.many + 1 > 256) (ho : opensM (stmtM l).op = false) :
    bd (n + 1) deep (l :: r) s = (.cons (stmtM l).op (stmtM l).args (stmtM l).n .nil (bd n deep r ⟨s.i + 1, s.many + 1, 0, s.bad⟩).1, (bd n deep r ⟨s.i + 1, s.many + 1, 0, s.bad⟩).2.1, (bd n deep r ⟨s.i + 1, s.many + 1, 0, s.bad⟩).2.2) := by
  rw [bd, if_neg (by simp [he])]
  simp only
  rw [if_neg hl, if_neg (by simp [hx]), if_neg hm, if_neg (by simp [ho])]
theorem back1 {i : Nat} (h : i ≤ 1000000) : IntKind.wrap .i64 (((i + 1 : Nat) : Int) - 1) = (i : Int) := by
  rw [wrap_sm (n := ((i + 1 : Nat) : Int) - 1) (by omega) (by omega)]; omega
theorem body_loop {G : Str → Prop} (T : Tbs G ρ) {ps : List Wds} {a : Option Addr} {cap : Nat} (X : Lns ρ ps a) (M : Mild (ps.map Wds.x)) (hG : ∀ p, p ∈ ps → ∀ w s, p.x = [w, s] → opOf w = 10 → G s) {pf pn pb pm pa pl cm : Nat} {ns : List Nat} (hns : ∀ c, c ∈ cm :: ns → ρ c = none) :
    ∀ (n deep : Nat) (r : List Line) (s : PS) {h : AW} {μ : Paint} {ρ1 ρ' : Store} {co : Nat} {oa : Option Addr} {oc : Nat} {cells : List Value} {vs : List (Option Addr × Nat × Nat × List Value)} {facc : F} {Q : Value → AW → Prop},
      Own h μ ρ' → Pcs ρ1 ρ' (co :: cm :: ns) (.sl oa oc 4 cells :: .many vs :: stR pf pn pb pm pa pl a ps.length cap s) → ρ1 co = none → Fra [] ρ ρ1 →
      r = (ps.map Wds.x).drop s.i → s.i ≤ ps.length → r.length < n → s.many ≤ s.i → deep ≤ 8 → facc.len ≤ s.i → Lies (Vm vs) facc cells →
      (∀ h' μ' ρ2 co' oa' oc' cells' vs', Own h' μ' ρ2 → Pcs ρ1 ρ2 (co' :: cm :: ns) (.sl oa' oc' 4 cells' :: .many vs' :: stR pf pn pb pm pa pl a ps.length cap (bd n deep r s).2.2) → ρ1 co' = none →
        Lies (Vm vs') (facc.app (bd n deep r s).1) cells' → (∀ x, x ∈ vs → x ∈ vs') → Q (.slice oa' (facc.app (bd n deep r s).1).len oc') h') →
      unitAt P f_action_Parse_fn2 2 [0, 1, 2, 3, 4, 5, 8] [.int .i64 (deep : Int), ptr0 pb, ptr0 pn, ptr0 pa, ptr0 pm, ptr0 pf, .slice oa facc.len oc] h Q := by
  intro n
  induction n with
  | zero => intro deep r s h μ ρ1 ρ' co oa oc cells vs facc Q O W hco Fr hr hi hn; omega
  | succ n ih =>
    intro deep r s h μ ρ1 ρ' co oa oc cells vs facc Q O W hco Fr hr hi hn hmany hd hfl L hq
    have hps : ps.length ≤ 262144 := by have := M.len; simpa using this
    have hnm : ∀ c, c ∈ co :: cm :: ns → ρ c = none := fun c hc => by
      rcases List.mem_cons.1 hc with rfl | hc
      · exact Fr.none0 hco
      · exact hns c hc
    refine r_action_Parse_fn2_2 ?_
    repeat (first | refine ⟨rfl, ?_⟩ | refine ⟨trivial, ?_⟩ | simp only [oB_some, bC_true, bC_false, vInt_int, vBool_bool, vStr_string, vPtr_pointer, vSl_slice, vMap_map, vFun_func, vAgg_agg, vTup_tuple, vIfc_nil, vIfc_iface, lC_cons, lN_nil, aP_some, shO_none, shO_some, Option.isNone_none, Option.isNone_some, Bool.not_true, Bool.not_false] | refine w_rd (by assumption) (by assumption) 0 (by rfl) (by rfl) ?_ | refine w_rd (by assumption) (by assumption) 1 (by rfl) (by rfl) ?_ | refine w_rd (by assumption) (by assumption) 2 (by rfl) (by rfl) ?_ | refine w_rd (by assumption) (by assumption) 3 (by rfl) (by rfl) ?_ | refine w_rd (by assumption) (by assumption) 4 (by rfl) (by rfl) ?_ | refine w_rd (by assumption) (by assumption) 5 (by rfl) (by rfl) ?_ | refine w_rd (by assumption) (by assumption) 6 (by rfl) (by rfl) ?_ | refine w_rd (by assumption) (by assumption) 7 (by rfl) (by rfl) ?_ | refine w_wrL (by assumption) (by assumption) 0 (by rfl) (Nat.le_of_ble_eq_true (by rfl)) (by rfl) fun h ρz O W => ?_ | refine w_wrL (by assumption) (by assumption) 1 (by rfl) (Nat.le_of_ble_eq_true (by rfl)) (by rfl) fun h ρz O W => ?_ | refine w_wrL (by assumption) (by assumption) 2 (by rfl) (Nat.le_of_ble_eq_true (by rfl)) (by rfl) fun h ρz O W => ?_ | refine w_wrL (by assumption) (by assumption) 3 (by rfl) (Nat.le_of_ble_eq_true (by rfl)) (by rfl) fun h ρz O W => ?_ | refine w_wrL (by assumption) (by assumption) 4 (by rfl) (Nat.le_of_ble_eq_true (by rfl)) (by rfl) fun h ρz O W => ?_ | refine w_wrL (by assumption) (by assumption) 5 (by rfl) (Nat.le_of_ble_eq_true (by rfl)) (by rfl) fun h ρz O W => ?_ | refine w_wrL (by assumption) (by assumption) 6 (by rfl) (Nat.le_of_ble_eq_true (by rfl)) (by rfl) fun h ρz O W => ?_ | refine w_wrL (by assumption) (by assumption) 7 (by rfl) (Nat.le_of_ble_eq_true (by rfl)) (by rfl) fun h ρz O W => ?_ | refine w_wr (by assumption) (by assumption) 0 (by rfl) (Nat.le_of_ble_eq_true (by rfl)) (by rfl) fun h ρz O W => ?_ | refine w_wr (by assumption) (by assumption) 1 (by rfl) (Nat.le_of_ble_eq_true (by rfl)) (by rfl) fun h ρz O W => ?_ | refine w_wr (by assumption) (by assumption) 2 (by rfl) (Nat.le_of_ble_eq_true (by rfl)) (by rfl) fun h ρz O W => ?_ | refine w_wr (by assumption) (by assumption) 3 (by rfl) (Nat.le_of_ble_eq_true (by rfl)) (by rfl) fun h ρz O W => ?_ | refine w_wr (by assumption) (by assumption) 4 (by rfl) (Nat.le_of_ble_eq_true (by rfl)) (by rfl) fun h ρz O W => ?_ | refine w_wr (by assumption) (by assumption) 5 (by rfl) (Nat.le_of_ble_eq_true (by rfl)) (by rfl) fun h ρz O W => ?_ | refine w_wr (by assumption) (by assumption) 6 (by rfl) (Nat.le_of_ble_eq_true (by rfl)) (by rfl) fun h ρz O W => ?_ | refine w_wr (by assumption) (by assumption) 7 (by rfl) (Nat.le_of_ble_eq_true (by rfl)) (by rfl) fun h ρz O W => ?_)
    refine bC_iff (fun e => ?_) (fun e => ?_)
    rotate_left
    · have ne : s.err ≠ 0 := neI e
      have := hq h μ ρ' co oa oc cells vs O (by rw [bd_err ne]; exact W) hco (by rw [bd_err ne, F.app_nil]; exact L) (fun _ x => x)
      rw [bd_err ne, F.app_nil] at this
      exact this
    have he : s.err = 0 := eqI e
    have hs : (⟨s.i, s.many, 0, s.bad⟩ : PS) = s := by rw [← he]
    replace W : Pcs ρ1 ρ' (co :: cm :: ns) (.sl oa oc 4 cells :: .many vs :: stR pf pn pb pm pa pl a ps.length cap ⟨s.i, s.many, 0, s.bad⟩) := by rw [hs]; exact W
    repeat (first | refine ⟨rfl, ?_⟩ | refine ⟨trivial, ?_⟩ | simp only [oB_some, bC_true, bC_false, vInt_int, vBool_bool, vStr_string, vPtr_pointer, vSl_slice, vMap_map, vFun_func, vAgg_agg, vTup_tuple, vIfc_nil, vIfc_iface, lC_cons, lN_nil, aP_some, shO_none, shO_some, Option.isNone_none, Option.isNone_some, Bool.not_true, Bool.not_false] | refine w_rd (by assumption) (by assumption) 0 (by rfl) (by rfl) ?_ | refine w_rd (by assumption) (by assumption) 1 (by rfl) (by rfl) ?_ | refine w_rd (by assumption) (by assumption) 2 (by rfl) (by rfl) ?_ | refine w_rd (by assumption) (by assumption) 3 (by rfl) (by rfl) ?_ | refine w_rd (by assumption) (by assumption) 4 (by rfl) (by rfl) ?_ | refine w_rd (by assumption) (by assumption) 5 (by rfl) (by rfl) ?_ | refine w_rd (by assumption) (by assumption) 6 (by rfl) (by rfl) ?_ | refine w_rd (by assumption) (by assumption) 7 (by rfl) (by rfl) ?_ | refine w_wrL (by assumption) (by assumption) 0 (by rfl) (Nat.le_of_ble_eq_true (by rfl)) (by rfl) fun h ρz O W => ?_ | refine w_wrL (by assumption) (by assumption) 1 (by rfl) (Nat.le_of_ble_eq_true (by rfl)) (by rfl) fun h ρz O W => ?_ | refine w_wrL (by assumption) (by assumption) 2 (by rfl) (Nat.le_of_ble_eq_true (by rfl)) (by rfl) fun h ρz O W => ?_ | refine w_wrL (by assumption) (by assumption) 3 (by rfl) (Nat.le_of_ble_eq_true (by rfl)) (by rfl) fun h ρz O W => ?_ | refine w_wrL (by assumption) (by assumption) 4 (by rfl) (Nat.le_of_ble_eq_true (by rfl)) (by rfl) fun h ρz O W => ?_ | refine w_wrL (by assumption) (by assumption) 5 (by rfl) (Nat.le_of_ble_eq_true (by rfl)) (by rfl) fun h ρz O W => ?_ | refine w_wrL (by assumption) (by assumption) 6 (by rfl) (Nat.le_of_ble_eq_true (by rfl)) (by rfl) fun h ρz O W => ?_ | refine w_wrL (by assumption) (by assumption) 7 (by rfl) (Nat.le_of_ble_eq_true (by rfl)) (by rfl) fun h ρz O W => ?_ | refine w_wr (by assumption) (by assumption) 0 (by rfl) (Nat.le_of_ble_eq_true (by rfl)) (by rfl) fun h ρz O W => ?_ | refine w_wr (by assumption) (by assumption) 1 (by rfl) (Nat.le_of_ble_eq_true (by rfl)) (by rfl) fun h ρz O W => ?_ | refine w_wr (by assumption) (by assumption) 2 (by rfl) (Nat.le_of_ble_eq_true (by rfl)) (by rfl) fun h ρz O W => ?_ | refine w_wr (by assumption) (by assumption) 3 (by rfl) (Nat.le_of_ble_eq_true (by rfl)) (by rfl) fun h ρz O W => ?_ | refine w_wr (by assumption) (by assumption) 4 (by rfl) (Nat.le_of_ble_eq_true (by rfl)) (by rfl) fun h ρz O W => ?_ | refine w_wr (by assumption) (by assumption) 5 (by rfl) (Nat.le_of_ble_eq_true (by rfl)) (by rfl) fun h ρz O W => ?_ | refine w_wr (by assumption) (by assumption) 6 (by rfl) (Nat.le_of_ble_eq_true (by rfl)) (by rfl) fun h ρz O W => ?_ | refine w_wr (by assumption) (by assumption) 7 (by rfl) (Nat.le_of_ble_eq_true (by rfl)) (by rfl) fun h ρz O W => ?_)
    refine r_action_Parse_fn1 ?_
    repeat (first | refine ⟨rfl, ?_⟩ | refine ⟨trivial, ?_⟩ | simp only [oB_some, bC_true, bC_false, vInt_int, vBool_bool, vStr_string, vPtr_pointer, vSl_slice, vMap_map, vFun_func, vAgg_agg, vTup_tuple, vIfc_nil, vIfc_iface, lC_cons, lN_nil, aP_some, shO_none, shO_some, Option.isNone_none, Option.isNone_some, Bool.not_true, Bool.not_false] | refine w_rd (by assumption) (by assumption) 0 (by rfl) (by rfl) ?_ | refine w_rd (by assumption) (by assumption) 1 (by rfl) (by rfl) ?_ | refine w_rd (by assumption) (by assumption) 2 (by rfl) (by rfl) ?_ | refine w_rd (by assumption) (by assumption) 3 (by rfl) (by rfl) ?_ | refine w_rd (by assumption) (by assumption) 4 (by rfl) (by rfl) ?_ | refine w_rd (by assumption) (by assumption) 5 (by rfl) (by rfl) ?_ | refine w_rd (by assumption) (by assumption) 6 (by rfl) (by rfl) ?_ | refine w_rd (by assumption) (by assumption) 7 (by rfl) (by rfl) ?_ | refine w_wrL (by assumption) (by assumption) 0 (by rfl) (Nat.le_of_ble_eq_true (by rfl)) (by rfl) fun h ρz O W => ?_ | refine w_wrL (by assumption) (by assumption) 1 (by rfl) (Nat.le_of_ble_eq_true (by rfl)) (by rfl) fun h ρz O W => ?_ | refine w_wrL (by assumption) (by assumption) 2 (by rfl) (Nat.le_of_ble_eq_true (by rfl)) (by rfl) fun h ρz O W => ?_ | refine w_wrL (by assumption) (by assumption) 3 (by rfl) (Nat.le_of_ble_eq_true (by rfl)) (by rfl) fun h ρz O W => ?_ | refine w_wrL (by assumption) (by assumption) 4 (by rfl) (Nat.le_of_ble_eq_true (by rfl)) (by rfl) fun h ρz O W => ?_ | refine w_wrL (by assumption) (by assumption) 5 (by rfl) (Nat.le_of_ble_eq_true (by rfl)) (by rfl) fun h ρz O W => ?_ | refine w_wrL (by assumption) (by assumption) 6 (by rfl) (Nat.le_of_ble_eq_true (by rfl)) (by rfl) fun h ρz O W => ?_ | refine w_wrL (by assumption) (by assumption) 7 (by rfl) (Nat.le_of_ble_eq_true (by rfl)) (by rfl) fun h ρz O W => ?_ | refine w_wr (by assumption) (by assumption) 0 (by rfl) (Nat.le_of_ble_eq_true (by rfl)) (by rfl) fun h ρz O W => ?_ | refine w_wr (by assumption) (by assumption) 1 (by rfl) (Nat.le_of_ble_eq_true (by rfl)) (by rfl) fun h ρz O W => ?_ | refine w_wr (by assumption) (by assumption) 2 (by rfl) (Nat.le_of_ble_eq_true (by rfl)) (by rfl) fun h ρz O W => ?_ | refine w_wr (by assumption) (by assumption) 3 (by rfl) (Nat.le_of_ble_eq_true (by rfl)) (by rfl) fun h ρz O W => ?_ | refine w_wr (by assumption) (by assumption) 4 (by rfl) (Nat.le_of_ble_eq_true (by rfl)) (by rfl) fun h ρz O W => ?_ | refine w_wr (by assumption) (by assumption) 5 (by rfl) (Nat.le_of_ble_eq_true (by rfl)) (by rfl) fun h ρz O W => ?_ | refine w_wr (by assumption) (by assumption) 6 (by rfl) (Nat.le_of_ble_eq_true (by rfl)) (by rfl) fun h ρz O W => ?_ | refine w_wr (by assumption) (by assumption) 7 (by rfl) (Nat.le_of_ble_eq_true (by rfl)) (by rfl) fun h ρz O W => ?_)
    refine bC_iff (fun e => ?_) (fun e => ?_)
    · have e := eqI e
      have : r = [] := by rw [hr]; exact List.drop_eq_nil_of_le (by simp; omega)
      rw [this, bd_nil he] at hq
      obtain ⟨si, sm, se, sb⟩ := s
      simp only at he
      subst he
      repeat (first | refine ⟨rfl, ?_⟩ | refine ⟨trivial, ?_⟩ | simp only [oB_some, bC_true, bC_false, vInt_int, vBool_bool, vStr_string, vPtr_pointer, vSl_slice, vMap_map, vFun_func, vAgg_agg, vTup_tuple, vIfc_nil, vIfc_iface, lC_cons, lN_nil, aP_some, shO_none, shO_some, Option.isNone_none, Option.isNone_some, Bool.not_true, Bool.not_false] | refine w_rd (by assumption) (by assumption) 0 (by rfl) (by rfl) ?_ | refine w_rd (by assumption) (by assumption) 1 (by rfl) (by rfl) ?_ | refine w_rd (by assumption) (by assumption) 2 (by rfl) (by rfl) ?_ | refine w_rd (by assumption) (by assumption) 3 (by rfl) (by rfl) ?_ | refine w_rd (by assumption) (by assumption) 4 (by rfl) (by rfl) ?_ | refine w_rd (by assumption) (by assumption) 5 (by rfl) (by rfl) ?_ | refine w_rd (by assumption) (by assumption) 6 (by rfl) (by rfl) ?_ | refine w_rd (by assumption) (by assumption) 7 (by rfl) (by rfl) ?_ | refine w_wrL (by assumption) (by assumption) 0 (by rfl) (Nat.le_of_ble_eq_true (by rfl)) (by rfl) fun h ρz O W => ?_ | refine w_wrL (by assumption) (by assumption) 1 (by rfl) (Nat.le_of_ble_eq_true (by rfl)) (by rfl) fun h ρz O W => ?_ | refine w_wrL (by assumption) (by assumption) 2 (by rfl) (Nat.le_of_ble_eq_true (by rfl)) (by rfl) fun h ρz O W => ?_ | refine w_wrL (by assumption) (by assumption) 3 (by rfl) (Nat.le_of_ble_eq_true (by rfl)) (by rfl) fun h ρz O W => ?_ | refine w_wrL (by assumption) (by assumption) 4 (by rfl) (Nat.le_of_ble_eq_true (by rfl)) (by rfl) fun h ρz O W => ?_ | refine w_wrL (by assumption) (by assumption) 5 (by rfl) (Nat.le_of_ble_eq_true (by rfl)) (by rfl) fun h ρz O W => ?_ | refine w_wrL (by assumption) (by assumption) 6 (by rfl) (Nat.le_of_ble_eq_true (by rfl)) (by rfl) fun h ρz O W => ?_ | refine w_wrL (by assumption) (by assumption) 7 (by rfl) (Nat.le_of_ble_eq_true (by rfl)) (by rfl) fun h ρz O W => ?_ | refine w_wr (by assumption) (by assumption) 0 (by rfl) (Nat.le_of_ble_eq_true (by rfl)) (by rfl) fun h ρz O W => ?_ | refine w_wr (by assumption) (by assumption) 1 (by rfl) (Nat.le_of_ble_eq_true (by rfl)) (by rfl) fun h ρz O W => ?_ | refine w_wr (by assumption) (by assumption) 2 (by rfl) (Nat.le_of_ble_eq_true (by rfl)) (by rfl) fun h ρz O W => ?_ | refine w_wr (by assumption) (by assumption) 3 (by rfl) (Nat.le_of_ble_eq_true (by rfl)) (by rfl) fun h ρz O W => ?_ | refine w_wr (by assumption) (by assumption) 4 (by rfl) (Nat.le_of_ble_eq_true (by rfl)) (by rfl) fun h ρz O W => ?_ | refine w_wr (by assumption) (by assumption) 5 (by rfl) (Nat.le_of_ble_eq_true (by rfl)) (by rfl) fun h ρz O W => ?_ | refine w_wr (by assumption) (by assumption) 6 (by rfl) (Nat.le_of_ble_eq_true (by rfl)) (by rfl) fun h ρz O W => ?_ | refine w_wr (by assumption) (by assumption) 7 (by rfl) (Nat.le_of_ble_eq_true (by rfl)) (by rfl) fun h ρz O W => ?_)
      refine bC_iff (fun e2 => ?_) (fun e2 => ?_)
      · have e2 : deep > 0 := by have := of_decide_eq_true e2; omega
        rw [if_pos e2, F.app_nil] at hq
        repeat (first | refine ⟨rfl, ?_⟩ | refine ⟨trivial, ?_⟩ | simp only [oB_some, bC_true, bC_false, vInt_int, vBool_bool, vStr_string, vPtr_pointer, vSl_slice, vMap_map, vFun_func, vAgg_agg, vTup_tuple, vIfc_nil, vIfc_iface, lC_cons, lN_nil, aP_some, shO_none, shO_some, Option.isNone_none, Option.isNone_some, Bool.not_true, Bool.not_false] | refine w_rd (by assumption) (by assumption) 0 (by rfl) (by rfl) ?_ | refine w_rd (by assumption) (by assumption) 1 (by rfl) (by rfl) ?_ | refine w_rd (by assumption) (by assumption) 2 (by rfl) (by rfl) ?_ | refine w_rd (by assumption) (by assumption) 3 (by rfl) (by rfl) ?_ | refine w_rd (by assumption) (by assumption) 4 (by rfl) (by rfl) ?_ | refine w_rd (by assumption) (by assumption) 5 (by rfl) (by rfl) ?_ | refine w_rd (by assumption) (by assumption) 6 (by rfl) (by rfl) ?_ | refine w_rd (by assumption) (by assumption) 7 (by rfl) (by rfl) ?_ | refine w_wrL (by assumption) (by assumption) 0 (by rfl) (Nat.le_of_ble_eq_true (by rfl)) (by rfl) fun h ρz O W => ?_ | refine w_wrL (by assumption) (by assumption) 1 (by rfl) (Nat.le_of_ble_eq_true (by rfl)) (by rfl) fun h ρz O W => ?_ | refine w_wrL (by assumption) (by assumption) 2 (by rfl) (Nat.le_of_ble_eq_true (by rfl)) (by rfl) fun h ρz O W => ?_ | refine w_wrL (by assumption) (by assumption) 3 (by rfl) (Nat.le_of_ble_eq_true (by rfl)) (by rfl) fun h ρz O W => ?_ | refine w_wrL (by assumption) (by assumption) 4 (by rfl) (Nat.le_of_ble_eq_true (by rfl)) (by rfl) fun h ρz O W => ?_ | refine w_wrL (by assumption) (by assumption) 5 (by rfl) (Nat.le_of_ble_eq_true (by rfl)) (by rfl) fun h ρz O W => ?_ | refine w_wrL (by assumption) (by assumption) 6 (by rfl) (Nat.le_of_ble_eq_true (by rfl)) (by rfl) fun h ρz O W => ?_ | refine w_wrL (by assumption) (by assumption) 7 (by rfl) (Nat.le_of_ble_eq_true (by rfl)) (by rfl) fun h ρz O W => ?_ | refine w_wr (by assumption) (by assumption) 0 (by rfl) (Nat.le_of_ble_eq_true (by rfl)) (by rfl) fun h ρz O W => ?_ | refine w_wr (by assumption) (by assumption) 1 (by rfl) (Nat.le_of_ble_eq_true (by rfl)) (by rfl) fun h ρz O W => ?_ | refine w_wr (by assumption) (by assumption) 2 (by rfl) (Nat.le_of_ble_eq_true (by rfl)) (by rfl) fun h ρz O W => ?_ | refine w_wr (by assumption) (by assumption) 3 (by rfl) (Nat.le_of_ble_eq_true (by rfl)) (by rfl) fun h ρz O W => ?_ | refine w_wr (by assumption) (by assumption) 4 (by rfl) (Nat.le_of_ble_eq_true (by rfl)) (by rfl) fun h ρz O W => ?_ | refine w_wr (by assumption) (by assumption) 5 (by rfl) (Nat.le_of_ble_eq_true (by rfl)) (by rfl) fun h ρz O W => ?_ | refine w_wr (by assumption) (by assumption) 6 (by rfl) (Nat.le_of_ble_eq_true (by rfl)) (by rfl) fun h ρz O W => ?_ | refine w_wr (by assumption) (by assumption) 7 (by rfl) (Nat.le_of_ble_eq_true (by rfl)) (by rfl) fun h ρz O W => ?_)
        exact hq _ _ _ _ _ _ _ _ (by assumption) (by assumption) hco L (fun _ x => x)
      · have e2 : ¬ deep > 0 := by have := of_decide_eq_false e2; omega
        rw [if_neg e2, F.app_nil] at hq
        exact hq _ _ _ _ _ _ _ _ O W hco L (fun _ x => x)
    have e := neI e
    have hlt : s.i < ps.length := by omega
    have hlt' : s.i < (ps.map Wds.x).length := by simpa using hlt
    obtain ⟨r', hr1, hr2⟩ : ∃ r', r = (ps[s.i]).x :: r' ∧ r' = (ps.map Wds.x).drop (s.i + 1) := by
      refine ⟨_, ?_, rfl⟩
      rw [hr, List.drop_eq_getElem_cons hlt']; simp
    subst hr1
    simp only [List.length_cons] at hn
    refine w_rd O W 6 rfl rfl ?_
    simp only [oB_some, bC_true, bC_false, vInt_int, vBool_bool, vStr_string, vPtr_pointer, vSl_slice, vMap_map, vFun_func, vAgg_agg, vTup_tuple, vIfc_nil, vIfc_iface, lC_cons, lN_nil, aP_some, shO_none, shO_some, Option.isNone_none, Option.isNone_some, Bool.not_true, Bool.not_false]
    rw [wrapS (by omega)]
    refine w_wr O W 6 (j := 0) rfl (Nat.le_of_ble_eq_true rfl) rfl fun h ρ2 O W => ?_
    repeat (first | refine ⟨rfl, ?_⟩ | refine ⟨trivial, ?_⟩ | simp only [oB_some, bC_true, bC_false, vInt_int, vBool_bool, vStr_string, vPtr_pointer, vSl_slice, vMap_map, vFun_func, vAgg_agg, vTup_tuple, vIfc_nil, vIfc_iface, lC_cons, lN_nil, aP_some, shO_none, shO_some, Option.isNone_none, Option.isNone_some, Bool.not_true, Bool.not_false] | refine w_rd (by assumption) (by assumption) 0 (by rfl) (by rfl) ?_ | refine w_rd (by assumption) (by assumption) 1 (by rfl) (by rfl) ?_ | refine w_rd (by assumption) (by assumption) 2 (by rfl) (by rfl) ?_ | refine w_rd (by assumption) (by assumption) 3 (by rfl) (by rfl) ?_ | refine w_rd (by assumption) (by assumption) 4 (by rfl) (by rfl) ?_ | refine w_rd (by assumption) (by assumption) 5 (by rfl) (by rfl) ?_ | refine w_rd (by assumption) (by assumption) 6 (by rfl) (by rfl) ?_ | refine w_rd (by assumption) (by assumption) 7 (by rfl) (by rfl) ?_ | refine w_wrL (by assumption) (by assumption) 0 (by rfl) (Nat.le_of_ble_eq_true (by rfl)) (by rfl) fun h ρz O W => ?_ | refine w_wrL (by assumption) (by assumption) 1 (by rfl) (Nat.le_of_ble_eq_true (by rfl)) (by rfl) fun h ρz O W => ?_ | refine w_wrL (by assumption) (by assumption) 2 (by rfl) (Nat.le_of_ble_eq_true (by rfl)) (by rfl) fun h ρz O W => ?_ | refine w_wrL (by assumption) (by assumption) 3 (by rfl) (Nat.le_of_ble_eq_true (by rfl)) (by rfl) fun h ρz O W => ?_ | refine w_wrL (by assumption) (by assumption) 4 (by rfl) (Nat.le_of_ble_eq_true (by rfl)) (by rfl) fun h ρz O W => ?_ | refine w_wrL (by assumption) (by assumption) 5 (by rfl) (Nat.le_of_ble_eq_true (by rfl)) (by rfl) fun h ρz O W => ?_ | refine w_wrL (by assumption) (by assumption) 6 (by rfl) (Nat.le_of_ble_eq_true (by rfl)) (by rfl) fun h ρz O W => ?_ | refine w_wrL (by assumption) (by assumption) 7 (by rfl) (Nat.le_of_ble_eq_true (by rfl)) (by rfl) fun h ρz O W => ?_ | refine w_wr (by assumption) (by assumption) 0 (by rfl) (Nat.le_of_ble_eq_true (by rfl)) (by rfl) fun h ρz O W => ?_ | refine w_wr (by assumption) (by assumption) 1 (by rfl) (Nat.le_of_ble_eq_true (by rfl)) (by rfl) fun h ρz O W => ?_ | refine w_wr (by assumption) (by assumption) 2 (by rfl) (Nat.le_of_ble_eq_true (by rfl)) (by rfl) fun h ρz O W => ?_ | refine w_wr (by assumption) (by assumption) 3 (by rfl) (Nat.le_of_ble_eq_true (by rfl)) (by rfl) fun h ρz O W => ?_ | refine w_wr (by assumption) (by assumption) 4 (by rfl) (Nat.le_of_ble_eq_true (by rfl)) (by rfl) fun h ρz O W => ?_ | refine w_wr (by assumption) (by assumption) 5 (by rfl) (Nat.le_of_ble_eq_true (by rfl)) (by rfl) fun h ρz O W => ?_ | refine w_wr (by assumption) (by assumption) 6 (by rfl) (Nat.le_of_ble_eq_true (by rfl)) (by rfl) fun h ρz O W => ?_ | refine w_wr (by assumption) (by assumption) 7 (by rfl) (Nat.le_of_ble_eq_true (by rfl)) (by rfl) fun h ρz O W => ?_)
    rw [back1 (by omega)]
    have F2 : Fra [] ρ ρ2 := Fr.via W.fra hnm
    refine ln_at O (X.keep F2) rfl rfl hlt fun V => ?_
    have hcap := X.caps _ (List.getElem_mem hlt)
    have hlen : (ps[s.i]).x.length ≤ 262144 := M.wds _ (List.mem_map_of_mem (List.getElem_mem hlt))
    have tail : (ps[s.i]).x ≠ [wEnd] →
      EvQ P f_action_stmt [Value.slice (ps[s.i]).a ps[s.i].x.length ps[s.i].cap] h fun v43 h44 => vTup v43 fun l45 => lC l45 fun v46 l47 => vAgg v46 fun l48 => lC l48 fun v49 l50 => vInt IntKind.i64 v49 fun n51 => lC l50
      fun v52 l53 => vSl v52 fun p54 m55 m56 => lC l53 fun v57 l58 => vInt IntKind.i64 v57 fun n59 => lC l58 fun v60 l61 => vSl v60 fun p62 m63 m64 => lN l61 (lC l47 fun v65 l66 => vBool v65
      fun b67 => lN l66 (oB (AW.wrL (AW.addVar h44 [Value.int IntKind.i64 0, Value.slice none 0 0, Value.int IntKind.i64 0, Value.slice none 0 0]) (AW.next h44) 0 [Value.int IntKind.i64 n51,
      Value.slice p54 m55 m56, Value.int IntKind.i64 n59, Value.slice p62 m63 m64]) fun h68 => oB (AW.rd h68 pm 0) fun v69 => vInt IntKind.i64 v69 fun n70 => oB (AW.wr h68 pm 0 (Value.int
      IntKind.i64 (IntKind.wrap IntKind.i64 (n70 + 1)))) fun h71 => bC (!b67) (oB (AW.rd h71 pa 0) fun v72 => vInt IntKind.i64 v72 fun n73 => oB (AW.wrL h71 pb 0 [Value.int IntKind.i64 130,
      Value.int IntKind.i64 (IntKind.wrap IntKind.i64 (n73 - 1))]) fun h74 => oB (AW.rd h74 (AW.next h44) 0) fun v75 => vInt IntKind.i64 v75 fun n76 => oB (AW.rd h74 (AW.next h44) 1) fun v77
      => vSl v77 fun p78 m79 m80 => oB (AW.rd h74 (AW.next h44) 2) fun v81 => vInt IntKind.i64 v81 fun n82 => oB (AW.rd h74 (AW.next h44) 3) fun v83 => vSl v83 fun p84 m85 m86 => oP (appendB
      P (AW.addVar h74 [Value.int IntKind.i64 n76, Value.slice p78 m79 m80, Value.int IntKind.i64 n82, Value.slice p84 m85 m86]) (Array.mk [ty_sl_api_Stmt, ty_sl_api_Stmt]) [Value.slice oa
      facc.len oc, Value.slice (some (Addr.mk (AW.next h74) 0 none)) 1 1]) fun v87 h88 => vSl v87 fun p89 m90 m91 => unitAt P f_action_Parse_fn2 2 [0, 1, 2, 3, 4, 5, 8] [Value.int
      IntKind.i64 (deep : Int), Value.pointer (some (Addr.mk pb 0 none)), Value.pointer (some (Addr.mk pn 0 none)), Value.pointer (some (Addr.mk pa 0 none)), Value.pointer (some (Addr.mk pm
      0 none)), Value.pointer (some (Addr.mk pf 0 none)), Value.slice p89 m90 m91] h88 Q) (oB (AW.rd h71 pm 0) fun v92 => vInt IntKind.i64 v92 fun n93 => bC (decide (n93 > 256)) (oB (AW.rd
      h71 pa 0) fun v94 => vInt IntKind.i64 v94 fun n95 => oB (AW.wrL h71 pb 0 [Value.int IntKind.i64 3, Value.int IntKind.i64 (IntKind.wrap IntKind.i64 (n95 - 1))]) fun h96 => oB (AW.rd h96
      (AW.next h44) 0) fun v97 => vInt IntKind.i64 v97 fun n98 => oB (AW.rd h96 (AW.next h44) 1) fun v99 => vSl v99 fun p100 m101 m102 => oB (AW.rd h96 (AW.next h44) 2) fun v103 => vInt
      IntKind.i64 v103 fun n104 => oB (AW.rd h96 (AW.next h44) 3) fun v105 => vSl v105 fun p106 m107 m108 => oP (appendB P (AW.addVar h96 [Value.int IntKind.i64 n98, Value.slice p100 m101
      m102, Value.int IntKind.i64 n104, Value.slice p106 m107 m108]) (Array.mk [ty_sl_api_Stmt, ty_sl_api_Stmt]) [Value.slice oa facc.len oc, Value.slice (some (Addr.mk (AW.next h96) 0
      none)) 1 1]) fun v109 h110 => vSl v109 fun p111 m112 m113 => unitAt P f_action_Parse_fn2 2 [0, 1, 2, 3, 4, 5, 8] [Value.int IntKind.i64 (deep : Int), Value.pointer (some (Addr.mk pb 0
      none)), Value.pointer (some (Addr.mk pn 0 none)), Value.pointer (some (Addr.mk pa 0 none)), Value.pointer (some (Addr.mk pm 0 none)), Value.pointer (some (Addr.mk pf 0 none)),
      Value.slice p111 m112 m113] h110 Q) (oB (AW.rd h71 (AW.next h44) 0) fun v114 => vInt IntKind.i64 v114 fun n115 => EvQ P f_action_opens [Value.int IntKind.i64 n115] h71 fun v116 h117 =>
      vBool v116 fun b118 => bC b118 (bC ((deep : Int) == 8) (oB (AW.rd h117 pa 0) fun v119 => vInt IntKind.i64 v119 fun n120 => oB (AW.wrL h117 pb 0 [Value.int IntKind.i64 132, Value.int
      IntKind.i64 (IntKind.wrap IntKind.i64 (n120 - 1))]) fun h121 => oB (AW.rd h121 (AW.next h44) 0) fun v122 => vInt IntKind.i64 v122 fun n123 => oB (AW.rd h121 (AW.next h44) 1) fun v124
      => vSl v124 fun p125 m126 m127 => oB (AW.rd h121 (AW.next h44) 2) fun v128 => vInt IntKind.i64 v128 fun n129 => oB (AW.rd h121 (AW.next h44) 3) fun v130 => vSl v130 fun p131 m132 m133
      => oP (appendB P (AW.addVar h121 [Value.int IntKind.i64 n123, Value.slice p125 m126 m127, Value.int IntKind.i64 n129, Value.slice p131 m132 m133]) (Array.mk [ty_sl_api_Stmt,
      ty_sl_api_Stmt]) [Value.slice oa facc.len oc, Value.slice (some (Addr.mk (AW.next h121) 0 none)) 1 1]) fun v134 h135 => vSl v134 fun p136 m137 m138 => unitAt P f_action_Parse_fn2 2 [0,
      1, 2, 3, 4, 5, 8] [Value.int IntKind.i64 (deep : Int), Value.pointer (some (Addr.mk pb 0 none)), Value.pointer (some (Addr.mk pn 0 none)), Value.pointer (some (Addr.mk pa 0 none)),
      Value.pointer (some (Addr.mk pm 0 none)), Value.pointer (some (Addr.mk pf 0 none)), Value.slice p136 m137 m138] h135 Q) (oB (AW.rd h117 (AW.next h44) 0) fun v139 => vInt IntKind.i64
      v139 fun n140 => EvQ P f_action_opens [Value.int IntKind.i64 n140] h117 fun v141 h142 => vBool v141 fun b143 => bC b143 (oB (AW.rd h142 pf 0) fun v144 => vFun v144 fun m145 l146 l147
      => EvQ P m145 (l146 ++ Value.int IntKind.i64 (IntKind.wrap IntKind.i64 ((deep : Int) + 1)) :: l147) h142 fun v148 h149 => vSl v148 fun p150 m151 m152 => oB (AW.wr h149 (AW.next h44) 3
      (Value.slice p150 m151 m152)) fun h153 => oB (AW.rd h153 (AW.next h44) 0) fun v154 => vInt IntKind.i64 v154 fun n155 => oB (AW.rd h153 (AW.next h44) 1) fun v156 => vSl v156 fun p157
      m158 m159 => oB (AW.rd h153 (AW.next h44) 2) fun v160 => vInt IntKind.i64 v160 fun n161 => oB (AW.rd h153 (AW.next h44) 3) fun v162 => vSl v162 fun p163 m164 m165 => oP (appendB P
      (AW.addVar h153 [Value.int IntKind.i64 n155, Value.slice p157 m158 m159, Value.int IntKind.i64 n161, Value.slice p163 m164 m165]) (Array.mk [ty_sl_api_Stmt, ty_sl_api_Stmt])
      [Value.slice oa facc.len oc, Value.slice (some (Addr.mk (AW.next h153) 0 none)) 1 1]) fun v166 h167 => vSl v166 fun p168 m169 m170 => unitAt P f_action_Parse_fn2 2 [0, 1, 2, 3, 4, 5,
      8] [Value.int IntKind.i64 (deep : Int), Value.pointer (some (Addr.mk pb 0 none)), Value.pointer (some (Addr.mk pn 0 none)), Value.pointer (some (Addr.mk pa 0 none)), Value.pointer
      (some (Addr.mk pm 0 none)), Value.pointer (some (Addr.mk pf 0 none)), Value.slice p168 m169 m170] h167 Q) (oB (AW.rd h142 (AW.next h44) 0) fun v171 => vInt IntKind.i64 v171 fun n172 =>
      oB (AW.rd h142 (AW.next h44) 1) fun v173 => vSl v173 fun p174 m175 m176 => oB (AW.rd h142 (AW.next h44) 2) fun v177 => vInt IntKind.i64 v177 fun n178 => oB (AW.rd h142 (AW.next h44) 3)
      fun v179 => vSl v179 fun p180 m181 m182 => oP (appendB P (AW.addVar h142 [Value.int IntKind.i64 n172, Value.slice p174 m175 m176, Value.int IntKind.i64 n178, Value.slice p180 m181
      m182]) (Array.mk [ty_sl_api_Stmt, ty_sl_api_Stmt]) [Value.slice oa facc.len oc, Value.slice (some (Addr.mk (AW.next h142) 0 none)) 1 1]) fun v183 h184 => vSl v183 fun p185 m186 m187 =>
      unitAt P f_action_Parse_fn2 2 [0, 1, 2, 3, 4, 5, 8] [Value.int IntKind.i64 (deep : Int), Value.pointer (some (Addr.mk pb 0 none)), Value.pointer (some (Addr.mk pn 0 none)),
      Value.pointer (some (Addr.mk pa 0 none)), Value.pointer (some (Addr.mk pm 0 none)), Value.pointer (some (Addr.mk pf 0 none)), Value.slice p185 m186 m187] h184 Q))) (oB (AW.rd h117
      (AW.next h44) 0) fun v188 => vInt IntKind.i64 v188 fun n189 => EvQ P f_action_opens [Value.int IntKind.i64 n189] h117 fun v190 h191 => vBool v190 fun b192 => bC b192 (oB (AW.rd h191 pf
      0) fun v193 => vFun v193 fun m194 l195 l196 => EvQ P m194 (l195 ++ Value.int IntKind.i64 (IntKind.wrap IntKind.i64 ((deep : Int) + 1)) :: l196) h191 fun v197 h198 => vSl v197 fun p199
      m200 m201 => oB (AW.wr h198 (AW.next h44) 3 (Value.slice p199 m200 m201)) fun h202 => oB (AW.rd h202 (AW.next h44) 0) fun v203 => vInt IntKind.i64 v203 fun n204 => oB (AW.rd h202
      (AW.next h44) 1) fun v205 => vSl v205 fun p206 m207 m208 => oB (AW.rd h202 (AW.next h44) 2) fun v209 => vInt IntKind.i64 v209 fun n210 => oB (AW.rd h202 (AW.next h44) 3) fun v211 =>
      vSl v211 fun p212 m213 m214 => oP (appendB P (AW.addVar h202 [Value.int IntKind.i64 n204, Value.slice p206 m207 m208, Value.int IntKind.i64 n210, Value.slice p212 m213 m214]) (Array.mk
      [ty_sl_api_Stmt, ty_sl_api_Stmt]) [Value.slice oa facc.len oc, Value.slice (some (Addr.mk (AW.next h202) 0 none)) 1 1]) fun v215 h216 => vSl v215 fun p217 m218 m219 => unitAt P
      f_action_Parse_fn2 2 [0, 1, 2, 3, 4, 5, 8] [Value.int IntKind.i64 (deep : Int), Value.pointer (some (Addr.mk pb 0 none)), Value.pointer (some (Addr.mk pn 0 none)), Value.pointer (some
      (Addr.mk pa 0 none)), Value.pointer (some (Addr.mk pm 0 none)), Value.pointer (some (Addr.mk pf 0 none)), Value.slice p217 m218 m219] h216 Q) (oB (AW.rd h191 (AW.next h44) 0) fun v220
      => vInt IntKind.i64 v220 fun n221 => oB (AW.rd h191 (AW.next h44) 1) fun v222 => vSl v222 fun p223 m224 m225 => oB (AW.rd h191 (AW.next h44) 2) fun v226 => vInt IntKind.i64 v226 fun
      n227 => oB (AW.rd h191 (AW.next h44) 3) fun v228 => vSl v228 fun p229 m230 m231 => oP (appendB P (AW.addVar h191 [Value.int IntKind.i64 n221, Value.slice p223 m224 m225, Value.int
      IntKind.i64 n227, Value.slice p229 m230 m231]) (Array.mk [ty_sl_api_Stmt, ty_sl_api_Stmt]) [Value.slice oa facc.len oc, Value.slice (some (Addr.mk (AW.next h191) 0 none)) 1 1]) fun
      v232 h233 => vSl v232 fun p234 m235 m236 => unitAt P f_action_Parse_fn2 2 [0, 1, 2, 3, 4, 5, 8] [Value.int IntKind.i64 (deep : Int), Value.pointer (some (Addr.mk pb 0 none)),
      Value.pointer (some (Addr.mk pn 0 none)), Value.pointer (some (Addr.mk pa 0 none)), Value.pointer (some (Addr.mk pm 0 none)), Value.pointer (some (Addr.mk pf 0 none)), Value.slice p234
      m235 m236] h233 Q)))))) := by
      intro hne
      refine stmt_ok O (T.keep F2) V hcap (by omega) (hG _ (List.getElem_mem hlt)) fun h2 μ2 ρ3 ca aa ac O2 W2 hca => ?_
      simp only [oB_some, bC_true, bC_false, vInt_int, vBool_bool, vStr_string, vPtr_pointer, vSl_slice, vMap_map, vFun_func, vAgg_agg, vTup_tuple, vIfc_nil, vIfc_iface, lC_cons, lN_nil, aP_some, shO_none, shO_some, Option.isNone_none, Option.isNone_some, Bool.not_true, Bool.not_false]
      have W3 := W.adopt W2 hca
      have hca1 : ρ1 ca = none := W.not0 hca
      obtain ⟨μ3, ρ4, O3, W4⟩ := w_into O2 W3 hca1 1 rfl
      have fin : ∀ {h' : AW} {μ' : Paint} {ρ' : Store} {oa' : Option Addr} {oc' : Nat} {vs2 : List (Option Addr × Nat × Nat × List Value)} {bo : F} {ba : Option Addr} {bc : Nat} {bcells : List Value} (s2 : PS) (r2 : List Line), Own h' μ' ρ' →
          Pcs ρ1 ρ' (co :: cm :: ns) (.sl oa' oc' 4 (cells ++ [.int .i64 (stmtM (ps[s.i]).x).op, .slice aa (stmtM (ps[s.i]).x).args.length ac, .int .i64 (stmtM (ps[s.i]).x).n, .slice ba bo.len bc]) :: .many vs2 :: stR pf pn pb pm pa pl a ps.length cap s2) →
          r2 = (ps.map Wds.x).drop s2.i → s2.i ≤ ps.length → r2.length < n → s2.many ≤ s2.i → s.i + 1 ≤ s2.i → (∀ x, x ∈ ((aa, ac, 1, strs (stmtM (ps[s.i]).x).args) :: vs) → x ∈ vs2) → Vm vs2 ba bcells → Lies (Vm vs2) bo bcells →
          bd (n + 1) deep ((ps[s.i]).x :: r') s = (.cons (stmtM (ps[s.i]).x).op (stmtM (ps[s.i]).x).args (stmtM (ps[s.i]).x).n bo (bd n deep r2 s2).1, (bd n deep r2 s2).2.1, (bd n deep r2 s2).2.2) →
          unitAt P f_action_Parse_fn2 2 [0, 1, 2, 3, 4, 5, 8] [.int .i64 (deep : Int), ptr0 pb, ptr0 pn, ptr0 pa, ptr0 pm, ptr0 pf, .slice oa' (facc.len + 1) oc'] h' Q := by
        intro h' μ' ρ' oa' oc' vs2 bo ba bc bcells s2 r2 O' W' g1 g2 g3 g4 g5 g6 g7 g8 g9
        rw [g9] at hq
        simp only [← F.snoc_app] at hq
        have L2 : Lies (Vm vs2) (facc.snoc (stmtM (ps[s.i]).x).op (stmtM (ps[s.i]).x).args (stmtM (ps[s.i]).x).n bo) (cells ++ [.int .i64 (stmtM (ps[s.i]).x).op, .slice aa (stmtM (ps[s.i]).x).args.length ac, .int .i64 (stmtM (ps[s.i]).x).n, .slice ba bo.len bc]) :=
          (L.mono fun _ _ y => y.more fun z hz => g6 z (by simp [hz])).app ⟨aa, ac, ba, bc, bcells, [], rfl, .inr ⟨ac, 1, g6 _ (by simp)⟩, g7, g8, rfl⟩
        have := ih deep r2 s2 (facc := facc.snoc (stmtM (ps[s.i]).x).op (stmtM (ps[s.i]).x).args (stmtM (ps[s.i]).x).n bo) (Q := Q) O' W' hco Fr g1 g2 g3 g4 hd (by rw [F.snoc_len]; omega) L2
          (fun h3 μ3 ρ3 co3 oa3 oc3 cells3 vs3 a1 a2 a3 a4 a5 => hq h3 μ3 ρ3 co3 oa3 oc3 cells3 vs3 a1 a2 a3 a4 fun z hz => a5 z (g6 z (by simp [hz])))
        rw [F.snoc_len] at this
        exact this
      have hfl2 : facc.len ≤ 1000000 := by omega
      refine w_copy O3 W4 rfl rfl rfl fun h4 μ4 ρ5 cx O4 W5 hcx => ?_
      refine w_rd O4 W5 6 rfl rfl ?_
      simp only [oB_some, bC_true, bC_false, vInt_int, vBool_bool, vStr_string, vPtr_pointer, vSl_slice, vMap_map, vFun_func, vAgg_agg, vTup_tuple, vIfc_nil, vIfc_iface, lC_cons, lN_nil, aP_some, shO_none, shO_some, Option.isNone_none, Option.isNone_some, Bool.not_true, Bool.not_false]
      rw [wrapS (j := s.many) (by omega)]
      refine w_wr O4 W5 6 (j := 0) rfl (Nat.le_of_ble_eq_true rfl) rfl fun h5 ρ6 O5 W6 => ?_
      refine bC_iff (fun e1 => ?_) (fun e1 => ?_)
      · refine w_rd O5 W6 7 rfl rfl ?_
        simp only [oB_some, bC_true, bC_false, vInt_int, vBool_bool, vStr_string, vPtr_pointer, vSl_slice, vMap_map, vFun_func, vAgg_agg, vTup_tuple, vIfc_nil, vIfc_iface, lC_cons, lN_nil, aP_some, shO_none, shO_some, Option.isNone_none, Option.isNone_some, Bool.not_true, Bool.not_false]
        rw [back1 (by omega)]
        refine w_wrL O5 W6 5 (j := 0) rfl (Nat.le_of_ble_eq_true rfl) rfl fun h6 ρ7 O6 W7 => ?_
        refine app_x (facc := facc) O6 W7 hcx L.len hfl2 fun h7 μ7 ρ8 oa' oc' O7 W8 => ?_
        refine fin (bo := .nil) ⟨s.i + 1, s.many + 1, 130, s.i⟩ r' O7 W8 hr2 (by simp only; omega) (by omega) (by simp only; omega) (Nat.le_refl _) (fun _ x => x) (.inl ⟨rfl, rfl⟩) rfl ?_
        rw [bd_bad he hne (nb e1), bd_err (by simp)]
      have hx := nb' e1
      refine w_rd O5 W6 6 rfl rfl ?_
      simp only [oB_some, bC_true, bC_false, vInt_int, vBool_bool, vStr_string, vPtr_pointer, vSl_slice, vMap_map, vFun_func, vAgg_agg, vTup_tuple, vIfc_nil, vIfc_iface, lC_cons, lN_nil, aP_some, shO_none, shO_some, Option.isNone_none, Option.isNone_some, Bool.not_true, Bool.not_false]
      refine bC_iff (fun e2 => ?_) (fun e2 => ?_)
      · have e2 : s.many + 1 > 256 := by have := of_decide_eq_true e2; omega
        refine w_rd O5 W6 7 rfl rfl ?_
        simp only [oB_some, bC_true, bC_false, vInt_int, vBool_bool, vStr_string, vPtr_pointer, vSl_slice, vMap_map, vFun_func, vAgg_agg, vTup_tuple, vIfc_nil, vIfc_iface, lC_cons, lN_nil, aP_some, shO_none, shO_some, Option.isNone_none, Option.isNone_some, Bool.not_true, Bool.not_false]
        rw [back1 (by omega)]
        refine w_wrL O5 W6 5 (j := 0) rfl (Nat.le_of_ble_eq_true rfl) rfl fun h6 ρ7 O6 W7 => ?_
        refine app_x (facc := facc) O6 W7 hcx L.len hfl2 fun h7 μ7 ρ8 oa' oc' O7 W8 => ?_
        refine fin (bo := .nil) ⟨s.i + 1, s.many + 1, 3, s.i⟩ r' O7 W8 hr2 (by simp only; omega) (by omega) (by simp only; omega) (Nat.le_refl _) (fun _ x => x) (.inl ⟨rfl, rfl⟩) rfl ?_
        rw [bd_long he hne hx e2, bd_err (by simp)]
      have e2 : ¬ s.many + 1 > 256 := by have := of_decide_eq_false e2; omega
      refine w_rd O5 W6 0 (j := 0) rfl rfl ?_
      simp only [oB_some, bC_true, bC_false, vInt_int, vBool_bool, vStr_string, vPtr_pointer, vSl_slice, vMap_map, vFun_func, vAgg_agg, vTup_tuple, vIfc_nil, vIfc_iface, lC_cons, lN_nil, aP_some, shO_none, shO_some, Option.isNone_none, Option.isNone_some, Bool.not_true, Bool.not_false]
      refine opens_ok ?_
      simp only [oB_some, bC_true, bC_false, vInt_int, vBool_bool, vStr_string, vPtr_pointer, vSl_slice, vMap_map, vFun_func, vAgg_agg, vTup_tuple, vIfc_nil, vIfc_iface, lC_cons, lN_nil, aP_some, shO_none, shO_some, Option.isNone_none, Option.isNone_some, Bool.not_true, Bool.not_false]
      refine bC_iff (fun ho => ?_) (fun ho => ?_)
      · refine bC_iff (fun e3 => ?_) (fun e3 => ?_)
        · have e3 : deep = 8 := by have := eqI e3; omega
          subst e3
          refine w_rd O5 W6 7 rfl rfl ?_
          simp only [oB_some, bC_true, bC_false, vInt_int, vBool_bool, vStr_string, vPtr_pointer, vSl_slice, vMap_map, vFun_func, vAgg_agg, vTup_tuple, vIfc_nil, vIfc_iface, lC_cons, lN_nil, aP_some, shO_none, shO_some, Option.isNone_none, Option.isNone_some, Bool.not_true, Bool.not_false]
          rw [back1 (by omega)]
          refine w_wrL O5 W6 5 (j := 0) rfl (Nat.le_of_ble_eq_true rfl) rfl fun h6 ρ7 O6 W7 => ?_
          refine app_x (facc := facc) O6 W7 hcx L.len hfl2 fun h7 μ7 ρ8 oa' oc' O7 W8 => ?_
          refine fin (bo := .nil) ⟨s.i + 1, s.many + 1, 132, s.i⟩ r' O7 W8 hr2 (by simp only; omega) (by omega) (by simp only; omega) (Nat.le_refl _) (fun _ x => x) (.inl ⟨rfl, rfl⟩) rfl ?_
          rw [bd_deep he hne hx e2 ho, bd_err (by simp)]
        have e3 : deep ≠ 8 := by have := neI e3; omega
        refine w_rd O5 W6 0 (j := 0) rfl rfl ?_
        simp only [oB_some, bC_true, bC_false, vInt_int, vBool_bool, vStr_string, vPtr_pointer, vSl_slice, vMap_map, vFun_func, vAgg_agg, vTup_tuple, vIfc_nil, vIfc_iface, lC_cons, lN_nil, aP_some, shO_none, shO_some, Option.isNone_none, Option.isNone_some, Bool.not_true, Bool.not_false]
        refine opens_ok ?_
        rw [ho]
        simp only [oB_some, bC_true, bC_false, vInt_int, vBool_bool, vStr_string, vPtr_pointer, vSl_slice, vMap_map, vFun_func, vAgg_agg, vTup_tuple, vIfc_nil, vIfc_iface, lC_cons, lN_nil, aP_some, shO_none, shO_some, Option.isNone_none, Option.isNone_some, Bool.not_true, Bool.not_false]
        refine w_rd O5 W6 3 (j := 0) rfl rfl ?_
        simp only [oB_some, bC_true, bC_false, vInt_int, vBool_bool, vStr_string, vPtr_pointer, vSl_slice, vMap_map, vFun_func, vAgg_agg, vTup_tuple, vIfc_nil, vIfc_iface, lC_cons, lN_nil, aP_some, shO_none, shO_some, Option.isNone_none, Option.isNone_some, Bool.not_true, Bool.not_false]
        rw [wrapS (j := deep) (by omega)]
        refine r_action_Parse_fn2 ?_
        obtain ⟨ρ7, cb, O6, W7, hcb⟩ := w_nil O5 W6.self.tail'.tail' 4
        have F6 : Fra [] ρ ρ6 := Fr.via W6.fra fun c hc => by
          rcases List.mem_cons.1 hc with rfl | hc
          · exact Fr.none0 hcx
          · exact hnm c hc
        obtain ⟨i1, i2, i3, i4, i5⟩ := bd_inv (ps.map Wds.x) n (deep + 1) r' ⟨s.i + 1, s.many + 1, 0, s.bad⟩ hr2 (by simp only [List.length_map]; omega)
        have i6 := bd_len n (deep + 1) r' ⟨s.i + 1, s.many + 1, 0, s.bad⟩
        have hbd := bd_open (n := n) (r := r') he hne hx e2 ho e3
        refine ih (deep + 1) r' ⟨s.i + 1, s.many + 1, 0, s.bad⟩ (facc := .nil) O6 W7 hcb F6 hr2 (by simp only; omega) (by omega) (by simp only; omega) (by omega) (Nat.zero_le _) rfl fun h7 μ7 ρ8 cb' ba bc bcells vs2 O7 W8 hcb' L8 hmore => ?_
        generalize bd n (deep + 1) r' ⟨s.i + 1, s.many + 1, 0, s.bad⟩ = q at i1 i2 i3 i4 i5 i6 hbd W8 L8 ⊢
        have L8 : Lies (Vm vs2) q.1 bcells := L8
        simp only [oB_some, bC_true, bC_false, vInt_int, vBool_bool, vStr_string, vPtr_pointer, vSl_slice, vMap_map, vFun_func, vAgg_agg, vTup_tuple, vIfc_nil, vIfc_iface, lC_cons, lN_nil, aP_some, shO_none, shO_some, Option.isNone_none, Option.isNone_some, Bool.not_true, Bool.not_false]
        have W9 := W6.call1 (fs := [cx, co]) (ms := cm :: ns) (xs := [_, _]) rfl W8 hcb'
        have hcb1 : ρ1 cb' = none := W6.not0 hcb'
        refine w_wr O7 W9 1 (j := 3) rfl (Nat.le_of_ble_eq_true rfl) rfl fun h8 ρ9 O8 W10 => ?_
        obtain ⟨μ9, ρ10, O9, W11⟩ := w_into O8 W10 hcb1 2 rfl
        refine app_x (facc := facc) O9 W11 hcx L.len hfl2 fun h9 μ10 ρ11 oa' oc' O10 W12 => ?_
        refine fin (bo := q.1) q.2.2 q.2.1 O10 W12 i1 (by simpa using i2) (by omega) (by simp only at i3 i4; omega) (by simp only at i3; omega) (fun x hx => List.mem_cons_of_mem _ (hmore x hx)) (.inr ⟨bc, 4, List.mem_cons_self⟩) (L8.mono fun _ _ y => y.more fun z hz => List.mem_cons_of_mem _ hz) hbd
      · refine w_rd O5 W6 0 (j := 0) rfl rfl ?_
        simp only [oB_some, bC_true, bC_false, vInt_int, vBool_bool, vStr_string, vPtr_pointer, vSl_slice, vMap_map, vFun_func, vAgg_agg, vTup_tuple, vIfc_nil, vIfc_iface, lC_cons, lN_nil, aP_some, shO_none, shO_some, Option.isNone_none, Option.isNone_some, Bool.not_true, Bool.not_false]
        refine opens_ok ?_
        rw [ho]
        simp only [oB_some, bC_true, bC_false, vInt_int, vBool_bool, vStr_string, vPtr_pointer, vSl_slice, vMap_map, vFun_func, vAgg_agg, vTup_tuple, vIfc_nil, vIfc_iface, lC_cons, lN_nil, aP_some, shO_none, shO_some, Option.isNone_none, Option.isNone_some, Bool.not_true, Bool.not_false]
        refine app_x (facc := facc) O5 W6 hcx L.len hfl2 fun h7 μ7 ρ8 oa' oc' O7 W8 => ?_
        refine fin (bo := .nil) ⟨s.i + 1, s.many + 1, 0, s.bad⟩ r' O7 W8 hr2 (by simp only; omega) (by omega) (by simp only; omega) (Nat.le_refl _) (fun _ x => x) (.inl ⟨rfl, rfl⟩) rfl ?_
        exact bd_plain he hne hx e2 ho
    refine bC_iff (fun e1 => ?_) (fun e1 => tail fun x => by rw [x] at e1; simp at e1)
    refine wd_at (j := 0) O V rfl rfl (by have := eqI e1; omega) ?_
    refine bC_iff (fun e2 => ?_) (fun e2 => tail fun x => by simp [x] at e2)
    have hend : (ps[s.i]).x = [wEnd] := by
      have h1 : (ps[s.i]).x.length = 1 := by have := eqI e1; omega
      obtain ⟨y, hy⟩ := List.length_eq_one_iff.1 h1
      have h2 := bEq_iff.1 e2
      simp only [hy, List.getElem_cons_zero] at h2
      rw [hy, h2]
    rw [hend, bd_end he] at hq
    refine bC_iff (fun e3 => ?_) (fun e3 => ?_)
    · have e3 : deep = 0 := by have := eqI e3; omega
      rw [if_pos e3, F.app_nil] at hq
      refine w_rd O W 6 rfl rfl ?_
      simp only [oB_some, bC_true, bC_false, vInt_int, vBool_bool, vStr_string, vPtr_pointer, vSl_slice, vMap_map, vFun_func, vAgg_agg, vTup_tuple, vIfc_nil, vIfc_iface, lC_cons, lN_nil, aP_some, shO_none, shO_some, Option.isNone_none, Option.isNone_some, Bool.not_true, Bool.not_false]
      rw [back1 (by omega)]
      repeat (first | refine ⟨rfl, ?_⟩ | refine ⟨trivial, ?_⟩ | simp only [oB_some, bC_true, bC_false, vInt_int, vBool_bool, vStr_string, vPtr_pointer, vSl_slice, vMap_map, vFun_func, vAgg_agg, vTup_tuple, vIfc_nil, vIfc_iface, lC_cons, lN_nil, aP_some, shO_none, shO_some, Option.isNone_none, Option.isNone_some, Bool.not_true, Bool.not_false] | refine w_rd (by assumption) (by assumption) 0 (by rfl) (by rfl) ?_ | refine w_rd (by assumption) (by assumption) 1 (by rfl) (by rfl) ?_ | refine w_rd (by assumption) (by assumption) 2 (by rfl) (by rfl) ?_ | refine w_rd (by assumption) (by assumption) 3 (by rfl) (by rfl) ?_ | refine w_rd (by assumption) (by assumption) 4 (by rfl) (by rfl) ?_ | refine w_rd (by assumption) (by assumption) 5 (by rfl) (by rfl) ?_ | refine w_rd (by assumption) (by assumption) 6 (by rfl) (by rfl) ?_ | refine w_rd (by assumption) (by assumption) 7 (by rfl) (by rfl) ?_ | refine w_wrL (by assumption) (by assumption) 0 (by rfl) (Nat.le_of_ble_eq_true (by rfl)) (by rfl) fun h ρz O W => ?_ | refine w_wrL (by assumption) (by assumption) 1 (by rfl) (Nat.le_of_ble_eq_true (by rfl)) (by rfl) fun h ρz O W => ?_ | refine w_wrL (by assumption) (by assumption) 2 (by rfl) (Nat.le_of_ble_eq_true (by rfl)) (by rfl) fun h ρz O W => ?_ | refine w_wrL (by assumption) (by assumption) 3 (by rfl) (Nat.le_of_ble_eq_true (by rfl)) (by rfl) fun h ρz O W => ?_ | refine w_wrL (by assumption) (by assumption) 4 (by rfl) (Nat.le_of_ble_eq_true (by rfl)) (by rfl) fun h ρz O W => ?_ | refine w_wrL (by assumption) (by assumption) 5 (by rfl) (Nat.le_of_ble_eq_true (by rfl)) (by rfl) fun h ρz O W => ?_ | refine w_wrL (by assumption) (by assumption) 6 (by rfl) (Nat.le_of_ble_eq_true (by rfl)) (by rfl) fun h ρz O W => ?_ | refine w_wrL (by assumption) (by assumption) 7 (by rfl) (Nat.le_of_ble_eq_true (by rfl)) (by rfl) fun h ρz O W => ?_ | refine w_wr (by assumption) (by assumption) 0 (by rfl) (Nat.le_of_ble_eq_true (by rfl)) (by rfl) fun h ρz O W => ?_ | refine w_wr (by assumption) (by assumption) 1 (by rfl) (Nat.le_of_ble_eq_true (by rfl)) (by rfl) fun h ρz O W => ?_ | refine w_wr (by assumption) (by assumption) 2 (by rfl) (Nat.le_of_ble_eq_true (by rfl)) (by rfl) fun h ρz O W => ?_ | refine w_wr (by assumption) (by assumption) 3 (by rfl) (Nat.le_of_ble_eq_true (by rfl)) (by rfl) fun h ρz O W => ?_ | refine w_wr (by assumption) (by assumption) 4 (by rfl) (Nat.le_of_ble_eq_true (by rfl)) (by rfl) fun h ρz O W => ?_ | refine w_wr (by assumption) (by assumption) 5 (by rfl) (Nat.le_of_ble_eq_true (by rfl)) (by rfl) fun h ρz O W => ?_ | refine w_wr (by assumption) (by assumption) 6 (by rfl) (Nat.le_of_ble_eq_true (by rfl)) (by rfl) fun h ρz O W => ?_ | refine w_wr (by assumption) (by assumption) 7 (by rfl) (Nat.le_of_ble_eq_true (by rfl)) (by rfl) fun h ρz O W => ?_)
      exact hq _ _ _ _ _ _ _ _ (by assumption) (by assumption) hco L (fun _ x => x)
    · have e3 : ¬ deep = 0 := by have := neI e3; omega
      rw [if_neg e3, F.app_nil] at hq
      simp only [he] at hq
      exact hq _ _ _ _ _ _ _ _ O W hco L (fun _ x => x)
end Go.Proofs.YtgdkekdedgkglaaDoor
end
