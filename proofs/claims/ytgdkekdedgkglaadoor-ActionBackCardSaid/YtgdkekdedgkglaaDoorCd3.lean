/- A deterministic heap for the model, proved sound, and walks of the program over it: part 9. No condition. -/
import Derived.Test.YtgdkekdedgkglaaDoorAb1
import Derived.Test.YtgdkekdedgkglaaDoorAb2
import Derived.Test.YtgdkekdedgkglaaDoorAb3
import Derived.Test.YtgdkekdedgkglaaDoorAb4
import Derived.Test.YtgdkekdedgkglaaDoorAb6
import Derived.Test.YtgdkekdedgkglaaDoorCd2
import Derived.Test.YtgdkekdedgkglaaDoorAb5
import Derived.Test.YtgdkekdedgkglaaDoorCd1
set_option linter.unusedVariables false
set_option linter.unusedSimpArgs false
set_option linter.unusedSectionVars false
section
/- Numbers read from decimal digits by the library; a repeat's number. -/
namespace Go.Proofs.YtgdkekdedgkglaaDoor
open Go.Abs Go.Abs.Fo
set_option maxRecDepth 100000
attribute [local irreducible] unitAt EvQ
variable {h : AW} {μ : Paint} {ρ : Store} {Q : Value → AW → Prop}
/-- A string's bytes in a slice of their own. -/
theorem w_conv (O : Own h μ ρ) {ρ0 : Store} {ns : List Nat} {rs : List Res} (W : Pcs ρ0 ρ ns rs) {s : Str} {f : Value → AW → Prop}
    (H : ∀ h' μ' ρ' c a, Own h' μ' ρ' → Pcs ρ0 ρ' (c :: ns) (.sl a s.size 1 (ofBytes s.data.toList) :: rs) → ρ0 c = none → f (.slice a s.size s.size) h') : oP (convA P h ty_string ty_sl_uint8 (.string s)) f := by
  obtain ⟨c, hc⟩ := O.fresh
  have ha : allOne (ofBytes s.data.toList) = true := allOne_of fun v hv => by
    obtain ⟨b, _, rfl⟩ := List.mem_map.1 hv
    rfl
  have hlen : (ofBytes s.data.toList).length = s.size * 1 := by unfold ofBytes; rw [List.length_map, Nat.mul_one]; rfl
  obtain ⟨h', e, M, C⟩ := newRow_ok (h := h) (μ := μ) (c := c) (S := (· = c)) ha hlen
  unfold convA
  rw [ti_ty_string, ti_ty_sl_uint8]
  simp only
  rw [ti_ty_uint8]
  simp only
  rw [e]
  exact H _ _ _ c _ (O.step (r := .sl (some ⟨h.next, 0, none⟩) s.size 1 (ofBytes s.data.toList)) C M) (W.new hc _) (W.not0 hc)
theorem numL_step {l : List UInt8} {b : UInt8} {n v : Nat} (h : numL (b :: l) n = some v) : 48 ≤ b.toNat ∧ b.toNat ≤ 57 ∧ numL l (10 * n + (b.toNat - 48)) = some v := by
  rw [numL] at h
  split at h
  · cases h
  · rename_i hb
    exact ⟨by omega, by omega, h⟩
theorem wrap8s {b : Nat} (h1 : 48 ≤ b) (h2 : b ≤ 255) : IntKind.wrap .u8 ((b : Int) - 48) = ((b - 48 : Nat) : Int) := by
  rw [show (b : Int) - 48 = ((b - 48 : Nat) : Int) from by omega, wrap8 (by omega)]
theorem atoi_loop {s : Str} (h1 : 1 ≤ s.size) (h2 : s.size < 19) {v : Nat} (hv0 : numL s.data.toList 0 = some v) (hq : RdQ Q ρ (.tuple ⟨[.int .i64 (v : Int), .nilIface]⟩)) :
    ∀ (d k n : Nat) {h : AW} {μ : Paint} {ρ' : Store} {c : Nat} {a : Option Addr}, s.size - k = d → k ≤ s.size → n < 10 ^ k → numL (s.data.toList.drop k) n = some v → Own h μ ρ' → Pcs ρ ρ' [c] [.sl a s.size 1 (ofBytes s.data.toList)] → ρ c = none →
      unitAt P f_strconv_Atoi_78 10 [5, 6, 47, 48, 49] [.string s, .int .i64 (n : Int), .slice a s.size s.size, .int .i64 (s.size : Int), .int .i64 (k : Int)] h Q := by
  have hlen : s.data.toList.length = s.size := rfl
  intro d
  induction d with
  | zero =>
    intro k n h μ ρ' c a hd hk hn hv O W hc
    refine r_strconv_Atoi_78_10 ?_
    rw [geI (by omega)]
    simp only [oB_some, bC_true, bC_false, vInt_int, vBool_bool, vStr_string, vPtr_pointer, vSl_slice, vMap_map, vFun_func, vAgg_agg, vTup_tuple, vIfc_nil, vIfc_iface, lC_cons, lN_nil, aP_some, shO_none, shO_some, Option.isNone_none, Option.isNone_some, Bool.not_true, Bool.not_false]
    rw [List.drop_eq_nil_of_le (by omega), numL] at hv
    simp only [Option.some.injEq] at hv
    subst hv
    rw [show natIdx 0 s.size = some 0 from natIdx_eq (j := 0) (by omega)]
    simp only [oB_some, bC_true, bC_false, vInt_int, vBool_bool, vStr_string, vPtr_pointer, vSl_slice, vMap_map, vFun_func, vAgg_agg, vTup_tuple, vIfc_nil, vIfc_iface, lC_cons, lN_nil, aP_some, shO_none, shO_some, Option.isNone_none, Option.isNone_some, Bool.not_true, Bool.not_false]
    have h0 : 0 < s.data.toList.length := by omega
    have hb : bAt s 0 = some ((s.data.toList[0]).toNat : Int) := by
      unfold bAt
      rw [Array.getElem?_eq_getElem (by exact h0)]
      simp
    refine oB_bind hb ?_
    have hd0 : 48 ≤ (s.data.toList[0]).toNat := by
      have : s.data.toList = s.data.toList[0] :: s.data.toList.drop 1 := by rw [← List.drop_eq_getElem_cons h0, List.drop_zero]
      rw [this] at hv0
      exact (numL_step hv0).1
    rw [show ((((s.data.toList[0]).toNat : Nat) : Int) == 45) = false from by rw [beq_eq_false_iff_ne]; omega]
    simp only [oB_some, bC_true, bC_false, vInt_int, vBool_bool, vStr_string, vPtr_pointer, vSl_slice, vMap_map, vFun_func, vAgg_agg, vTup_tuple, vIfc_nil, vIfc_iface, lC_cons, lN_nil, aP_some, shO_none, shO_some, Option.isNone_none, Option.isNone_some, Bool.not_true, Bool.not_false]
    exact hq _ _ _ O (W.fra0 fun c' hc' => by simp at hc'; rw [hc']; exact hc)
  | succ d ih =>
    intro k n h μ ρ' c a hd hk hn hv O W hc
    have hlt : k < s.size := by omega
    have hlt' : k < s.data.toList.length := by omega
    refine r_strconv_Atoi_78_10 ?_
    rw [ltI hlt]
    simp only [oB_some, bC_true, bC_false, vInt_int, vBool_bool, vStr_string, vPtr_pointer, vSl_slice, vMap_map, vFun_func, vAgg_agg, vTup_tuple, vIfc_nil, vIfc_iface, lC_cons, lN_nil, aP_some, shO_none, shO_some, Option.isNone_none, Option.isNone_some, Bool.not_true, Bool.not_false]
    rw [List.drop_eq_getElem_cons hlt'] at hv
    have hg : (ofBytes s.data.toList)[k]? = some (.int .u8 ((s.data.toList[k]).toNat : Int)) := by
      unfold ofBytes
      rw [List.getElem?_map, List.getElem?_eq_getElem hlt']; rfl
    obtain ⟨b1, b2, hv2⟩ := numL_step hv
    refine (w_sl O W 0 rfl).i1 rfl (by unfold ofBytes; rw [List.length_map]; rfl) hg ?_
    simp only [oB_some, bC_true, bC_false, vInt_int, vBool_bool, vStr_string, vPtr_pointer, vSl_slice, vMap_map, vFun_func, vAgg_agg, vTup_tuple, vIfc_nil, vIfc_iface, lC_cons, lN_nil, aP_some, shO_none, shO_some, Option.isNone_none, Option.isNone_some, Bool.not_true, Bool.not_false]
    rw [wrap8s b1 (by omega)]
    rw [show decide ((((s.data.toList[k]).toNat - 48 : Nat) : Int) > 9) = false from decide_eq_false (by omega)]
    simp only [oB_some, bC_true, bC_false, vInt_int, vBool_bool, vStr_string, vPtr_pointer, vSl_slice, vMap_map, vFun_func, vAgg_agg, vTup_tuple, vIfc_nil, vIfc_iface, lC_cons, lN_nil, aP_some, shO_none, shO_some, Option.isNone_none, Option.isNone_some, Bool.not_true, Bool.not_false]
    have hp : 10 ^ (k + 1) ≤ 10 ^ 18 := Nat.pow_le_pow_right (by omega) (by omega)
    rw [Nat.pow_succ] at hp
    have hp2 : 10 ^ 18 = 1000000000000000000 := rfl
    have hn2 : n * 10 + 9 < 1000000000000000000 := by omega
    rw [Go.Abs.wrap_small (n := (n : Int) * 10) (by omega) (by omega), wrap_sm (n := (((s.data.toList[k]).toNat - 48 : Nat) : Int)) (by omega) (by omega), Go.Abs.wrap_small (n := (n : Int) * 10 + (((s.data.toList[k]).toNat - 48 : Nat) : Int)) (by omega) (by omega), wrapS (by omega)]
    rw [show (n : Int) * 10 + (((s.data.toList[k]).toNat - 48 : Nat) : Int) = ((10 * n + ((s.data.toList[k]).toNat - 48) : Nat) : Int) from by omega]
    exact ih (k + 1) _ (by omega) (by omega) (by rw [Nat.pow_succ]; omega) hv2 O W hc
theorem atoi_ok (O : Own h μ ρ) {s : Str} (h1 : 1 ≤ s.size) (h2 : s.size < 19) {v : Nat} (hv : numL s.data.toList 0 = some v) (hq : RdQ Q ρ (.tuple ⟨[.int .i64 (v : Int), .nilIface]⟩)) : EvQ P f_strconv_Atoi [.string s] h Q := by
  refine r_strconv_Atoi (r_strconv_Atoi_78 ?_)
  rw [show decide ((0 : Int) < (s.size : Int)) = true from decide_eq_true (by omega), show decide ((s.size : Int) < 19) = true from decide_eq_true (by omega)]
  simp only [oB_some, bC_true, bC_false, vInt_int, vBool_bool, vStr_string, vPtr_pointer, vSl_slice, vMap_map, vFun_func, vAgg_agg, vTup_tuple, vIfc_nil, vIfc_iface, lC_cons, lN_nil, aP_some, shO_none, shO_some, Option.isNone_none, Option.isNone_some, Bool.not_true, Bool.not_false]
  rw [show natIdx 0 s.size = some 0 from natIdx_eq (j := 0) (by omega)]
  simp only [oB_some, bC_true, bC_false, vInt_int, vBool_bool, vStr_string, vPtr_pointer, vSl_slice, vMap_map, vFun_func, vAgg_agg, vTup_tuple, vIfc_nil, vIfc_iface, lC_cons, lN_nil, aP_some, shO_none, shO_some, Option.isNone_none, Option.isNone_some, Bool.not_true, Bool.not_false]
  have h0 : 0 < s.data.toList.length := h1
  have hb : bAt s 0 = some ((s.data.toList[0]).toNat : Int) := by
    unfold bAt
    rw [Array.getElem?_eq_getElem (by exact h0)]
    simp
  have hd0 : 48 ≤ (s.data.toList[0]).toNat := by
    have : s.data.toList = s.data.toList[0] :: s.data.toList.drop 1 := by rw [← List.drop_eq_getElem_cons h0, List.drop_zero]
    rw [this] at hv
    exact (numL_step hv).1
  refine oB_bind hb ?_
  rw [show ((((s.data.toList[0]).toNat : Nat) : Int) == 45) = false from by rw [beq_eq_false_iff_ne]; omega]
  simp only [oB_some, bC_true, bC_false, vInt_int, vBool_bool, vStr_string, vPtr_pointer, vSl_slice, vMap_map, vFun_func, vAgg_agg, vTup_tuple, vIfc_nil, vIfc_iface, lC_cons, lN_nil, aP_some, shO_none, shO_some, Option.isNone_none, Option.isNone_some, Bool.not_true, Bool.not_false]
  refine oB_bind hb ?_
  rw [show ((((s.data.toList[0]).toNat : Nat) : Int) == 43) = false from by rw [beq_eq_false_iff_ne]; omega]
  simp only [oB_some, bC_true, bC_false, vInt_int, vBool_bool, vStr_string, vPtr_pointer, vSl_slice, vMap_map, vFun_func, vAgg_agg, vTup_tuple, vIfc_nil, vIfc_iface, lC_cons, lN_nil, aP_some, shO_none, shO_some, Option.isNone_none, Option.isNone_some, Bool.not_true, Bool.not_false]
  refine r_strconv_Atoi_78_8 ?_
  refine w_conv O p00 fun h5 μ2 ρ2 c a O2 W2 hc => ?_
  simp only [oB_some, bC_true, bC_false, vInt_int, vBool_bool, vStr_string, vPtr_pointer, vSl_slice, vMap_map, vFun_func, vAgg_agg, vTup_tuple, vIfc_nil, vIfc_iface, lC_cons, lN_nil, aP_some, shO_none, shO_some, Option.isNone_none, Option.isNone_some, Bool.not_true, Bool.not_false]
  refine atoi_loop h1 h2 hv (fun h3 μ3 ρ3 O3 F3 => ?_) _ 0 0 rfl (by omega) (by simp) hv O2 W2 hc
  simp only [oB_some, bC_true, bC_false, vInt_int, vBool_bool, vStr_string, vPtr_pointer, vSl_slice, vMap_map, vFun_func, vAgg_agg, vTup_tuple, vIfc_nil, vIfc_iface, lC_cons, lN_nil, aP_some, shO_none, shO_some, Option.isNone_none, Option.isNone_some, Bool.not_true, Bool.not_false]
  exact hq _ _ _ O3 F3
theorem digS_len : ∀ k : Fin 1001, (digS k.1).size ≤ 4 ∧ 1 ≤ (digS k.1).size := by decide +kernel
/-- Words of decimal digits. -/
def Digs (s : Str) : Prop := 1 ≤ s.size ∧ s.size < 19 ∧ ∃ v, numL s.data.toList 0 = some v
theorem number_digits (O : Own h μ ρ) (T : Vw ρ [] (some ⟨2, 0, none⟩) pow10) {s : Str} (hs : Digs s) (hq : RdQ Q ρ (.int .i64 (numM s))) : EvQ P f_action_number [.string s] h Q := by
  obtain ⟨h1, h2, v, hv⟩ := hs
  refine r_action_number ?_
  refine atoi_ok O h1 h2 hv fun h3 μ3 ρ3 O3 F3 => ?_
  simp only [oB_some, bC_true, bC_false, vInt_int, vBool_bool, vStr_string, vPtr_pointer, vSl_slice, vMap_map, vFun_func, vAgg_agg, vTup_tuple, vIfc_nil, vIfc_iface, lC_cons, lN_nil, aP_some, shO_none, shO_some, Option.isNone_none, Option.isNone_some, Bool.not_true, Bool.not_false]
  rw [show decide ((v : Int) < 0) = false from decide_eq_false (by omega)]
  simp only [oB_some, bC_true, bC_false, vInt_int, vBool_bool, vStr_string, vPtr_pointer, vSl_slice, vMap_map, vFun_func, vAgg_agg, vTup_tuple, vIfc_nil, vIfc_iface, lC_cons, lN_nil, aP_some, shO_none, shO_some, Option.isNone_none, Option.isNone_some, Bool.not_true, Bool.not_false]
  have hnone : 4 < s.size → numM s = -1 := fun hh => by
    unfold numM; rw [if_pos (.inr hh)]
  refine bC_iff (fun e => ?_) (fun e => ?_)
  · have e : v > 1000 := by have := of_decide_eq_true e; omega
    have : numM s = -1 := by
      by_cases hh : 4 < s.size
      · exact hnone hh
      · unfold numM
        rw [if_neg (by omega), hv]
        simp only
        rw [if_pos (.inl e)]
    rw [this] at hq
    exact hq _ _ _ O3 F3
  have e : v ≤ 1000 := by have := of_decide_eq_false e; omega
  refine itoa_ok O3 (T.keep F3) e fun h4 μ4 ρ4 O4 F4 => ?_
  simp only [oB_some, bC_true, bC_false, vInt_int, vBool_bool, vStr_string, vPtr_pointer, vSl_slice, vMap_map, vFun_func, vAgg_agg, vTup_tuple, vIfc_nil, vIfc_iface, lC_cons, lN_nil, aP_some, shO_none, shO_some, Option.isNone_none, Option.isNone_some, Bool.not_true, Bool.not_false]
  refine bC_iff (fun e2 => ?_) (fun e2 => ?_)
  · have e2 : digS v ≠ s := bEq_false.1 (nb e2)
    have : numM s = -1 := by
      by_cases hh : 4 < s.size
      · exact hnone hh
      · unfold numM
        rw [if_neg (by omega), hv]
        simp only
        rw [if_pos (.inr e2)]
    rw [this] at hq
    exact hq _ _ _ O4 (F3.trans F4)
  · have e2 : digS v = s := bEq_iff.1 (nb' e2)
    have hl := digS_len ⟨v, by omega⟩
    simp only [e2] at hl
    have : numM s = v := by
      unfold numM
      rw [if_neg (by omega), hv]
      simp only
      rw [if_neg (by
        rintro (x | x)
        · omega
        · exact x e2)]
    rw [this] at hq
    exact hq _ _ _ O4 (F3.trans F4)
end Go.Proofs.YtgdkekdedgkglaaDoor
end

section
/- Rules of walks, printed by a program of ours: group ALex. -/
namespace Go.Proofs.YtgdkekdedgkglaaDoor
open Go.Abs
set_option maxRecDepth 100000
theorem r_p_strings_Builder_copyCheck {p1 : Option Addr} {h : AW} {Q : Value → AW → Prop} (H : aP p1 fun m2 m3 => oB (AW.rd h m2 m3) fun v4 => vPtr v4 fun p5 => bC (Option.isNone p5) (oP (convA P h
  ty_p_strings_Builder ty_unsafe_Pointer (Value.pointer p1)) fun v6 h7 => vPtr v6 fun p8 => EvQ P f_abi_NoEscape [Value.pointer p8] h7 fun v9 h10 => vPtr v9 fun p11 => oP (convA P h10 ty_unsafe_Pointer ty_p_strings_Builder (Value.pointer
  p11)) fun v12 h13 => vPtr v12 fun p14 => aP p1 fun m15 m16 => oB (AW.wr h13 m15 m16 (Value.pointer p14)) fun h17 => Q (Value.tuple (Array.mk [])) h17) (aP p1 fun m18 m19 => oB
  (AW.rd h m18 m19) fun v20 => vPtr v20 fun p21 => oB (eqV P ty_p_strings_Builder false (Value.pointer p21) (Value.pointer p1)) fun b22 => bC (!b22) False (Q (Value.tuple (Array.mk [])) h))) :
  EvQ P f_p_strings_Builder_copyCheck [Value.pointer p1] h Q := fn_ok (n := 400) (ann := annOf []) (Eq.mp (by kernel_rfl) H)
theorem r_lex_Lines {s1 : ByteArray} {h : AW} {Q : Value → AW → Prop} (H : bC (decide ((↑(ByteArray.size s1) : Int) > 32768)) (oB (AW.wr (AW.addVar (AW.addVar h [Value.slice none 0 0])
  [Value.int IntKind.i64 0, Value.int IntKind.i64 0]) (AW.next h) 0 (Value.slice none 0 0)) fun h2 => oB (AW.wrL h2 (AW.next (AW.addVar h [Value.slice none 0 0])) 0 [Value.int
  IntKind.i64 3, Value.int IntKind.i64 32768]) fun h3 => oB (AW.rd h3 (AW.next h) 0) fun v4 => vSl v4 fun p5 m6 m7 => oB (AW.rd h3 (AW.next (AW.addVar h [Value.slice none 0 0])) 0)
  fun v8 => vInt IntKind.i64 v8 fun n9 => oB (AW.rd h3 (AW.next (AW.addVar h [Value.slice none 0 0])) 1) fun v10 => vInt IntKind.i64 v10 fun n11 => Q (Value.tuple (Array.mk
  [Value.slice p5 m6 m7, Value.agg (Array.mk [Value.int IntKind.i64 n9, Value.int IntKind.i64 n11])])) h3) (EvQ P f_p_lex_reader_lines [Value.pointer (some (Addr.mk (AW.next (AW.addVar (AW.addVar
  h [Value.slice none 0 0]) [Value.int IntKind.i64 0, Value.int IntKind.i64 0])) 0 none))] (AW.addVar (AW.addVar (AW.addVar h [Value.slice none 0 0]) [Value.int IntKind.i64 0,
  Value.int IntKind.i64 0]) [Value.string s1, Value.int IntKind.i64 0, Value.int IntKind.i64 1, Value.int IntKind.i64 0]) fun v12 h13 => vSl v12 fun p14 m15 m16 => oB (AW.wr h13
  (AW.next h) 0 (Value.slice p14 m15 m16)) fun h17 => oB (AW.wrL h17 (AW.next (AW.addVar h [Value.slice none 0 0])) 0 [Value.int IntKind.i64 0, Value.int IntKind.i64 0]) fun h18 =>
  oB (AW.rd h18 (AW.next h) 0) fun v19 => vSl v19 fun p20 m21 m22 => oB (AW.rd h18 (AW.next (AW.addVar h [Value.slice none 0 0])) 0) fun v23 => vInt IntKind.i64 v23 fun n24 => oB
  (AW.rd h18 (AW.next (AW.addVar h [Value.slice none 0 0])) 1) fun v25 => vInt IntKind.i64 v25 fun n26 => Q (Value.tuple (Array.mk [Value.slice p20 m21 m22, Value.agg (Array.mk
  [Value.int IntKind.i64 n24, Value.int IntKind.i64 n26])])) h18)) : EvQ P f_lex_Lines [Value.string s1] h Q := fn_ok (n := 400) (ann := annOf []) (Eq.mp (by kernel_rfl) H)
theorem r_lex_Show {s1 : ByteArray} {h : AW} {Q : Value → AW → Prop} (H : EvQ P f_lex_Plain [Value.string s1] h fun v2 h3 => vBool v2 fun b4 => bC b4 (Q (Value.string s1) h3) (EvQ P f_lex_Quote
  [Value.string s1] h3 fun v5 h6 => vStr v5 fun s7 => Q (Value.string s7) h6)) : EvQ P f_lex_Show [Value.string s1] h Q := fn_ok (n := 400) (ann := annOf []) (Eq.mp (by kernel_rfl) H)
theorem r_p_lex_reader_lines {p1 : Option Addr} {h : AW} {Q : Value → AW → Prop} (H : oB (AW.wrL (AW.addVar (AW.addVar h [Value.slice none 0 0]) [Value.int IntKind.i64 0, Value.bool false,
  Value.slice none 0 0]) (AW.next (AW.addVar h [Value.slice none 0 0])) 0 [Value.int IntKind.i64 1, Value.bool false, Value.slice none 0 0]) fun h2 => unitAt P f_p_lex_reader_lines 5 [0, 3, 4, 5,
  6] [Value.pointer p1, Value.pointer (some (Addr.mk (AW.next h) 0 none)), Value.pointer (some (Addr.mk (AW.next (AW.addVar h [Value.slice none 0 0])) 0 none)), Value.bool true,
  Value.func (Fn.func f_p_lex_reader_lines_fn1) (Array.mk []) (Array.mk [Value.pointer (some (Addr.mk (AW.next (AW.addVar h [Value.slice none 0 0])) 0 none)), Value.pointer (some (Addr.mk (AW.next h)
  0 none))])] h2 Q) : EvQ P f_p_lex_reader_lines [Value.pointer p1] h Q := fn_ok (n := 400) (ann := annOf [(5, [0, 3, 4, 5, 6]), (23, [0, 3, 4, 5, 6, 12, 13]), (30, [0, 3, 4, 5, 6, 7, 9, 10]),
  (35, [0, 3, 4, 5, 6, 7, 10]), (37, [0, 3, 4, 5, 6, 9, 10, 14, 15])]) (Eq.mp (by kernel_rfl) H)
theorem r_p_lex_reader_lines_5 {p1 : Option Addr} {m2 : Nat} {m3 : Nat} {b4 : Bool} {m5 : Nat} {m6 : Nat} {h : AW} {Q : Value → AW → Prop} (H : EvQ P f_p_lex_reader_peek [Value.pointer p1] h fun v7 h8 => vTup
  v7 fun l9 => lC l9 fun v10 l11 => vInt IntKind.u8 v10 fun n12 => lC l11 fun v13 l14 => vInt IntKind.i64 v13 fun n15 => lN l14 (bC (n15 == 0) (EvQ P f_p_lex_reader_lines_fn1 [Value.pointer (some
  (Addr.mk m5 0 none)), Value.pointer (some (Addr.mk m6 0 none))] h8 fun v16 h17 => oB (AW.rd h17 m2 0) fun v18 => vSl v18 fun p19 m20 m21 => Q (Value.slice p19 m20 m21) h17) (aP
  p1 fun m22 m23 => oB (AW.rd h8 m22 (m23 + 1)) fun v24 => vInt IntKind.i64 v24 fun n25 => aP p1 fun m26 m27 => oB (AW.rd h8 m26 (m27 + 2)) fun v28 => vInt IntKind.i64 v28 fun n29
  => aP p1 fun m30 m31 => oB (AW.rd h8 m30 (m31 + 3)) fun v32 => vInt IntKind.i64 v32 fun n33 => oB (AW.wrL (AW.addVar h8 [Value.string (ByteArray.mk #[]), Value.int IntKind.i64 0,
  Value.int IntKind.i64 0, Value.bool false, Value.bool false]) (AW.next h8) 0 [Value.string (ByteArray.mk #[]), Value.int IntKind.i64 n29, Value.int IntKind.i64 n33, Value.bool
  false, Value.bool false]) fun h34 => oB (AW.rd (AW.addVar h8 [Value.string (ByteArray.mk #[]), Value.int IntKind.i64 0, Value.int IntKind.i64 0, Value.bool false, Value.bool
  false]) m26 (m27 + 2)) fun v35 => vInt IntKind.i64 v35 fun n36 => Value.int IntKind.i64 n36 = Value.int IntKind.i64 n29 ∧ oB (AW.rd (AW.addVar h8 [Value.string (ByteArray.mk
  #[]), Value.int IntKind.i64 0, Value.int IntKind.i64 0, Value.bool false, Value.bool false]) m30 (m31 + 3)) fun v37 => vInt IntKind.i64 v37 fun n38 => Value.int IntKind.i64 n38 =
  Value.int IntKind.i64 n33 ∧ EvQ P f_p_lex_reader_next [Value.pointer p1] h34 fun v39 h40 => bC (n12 == 10) (EvQ P f_p_lex_reader_lines_fn1 [Value.pointer (some (Addr.mk m5 0 none)), Value.pointer (some (Addr.mk
  m6 0 none))] h40 fun v41 h42 => aP p1 fun m43 m44 => oB (AW.rd h42 m43 (m44 + 2)) fun v45 => vInt IntKind.i64 v45 fun n46 => oB (AW.wrL h42 m3 0 [Value.int IntKind.i64 n46,
  Value.bool false, Value.slice none 0 0]) fun h47 => unitAt P f_p_lex_reader_lines 5 [0, 3, 4, 5, 6] [Value.pointer p1, Value.pointer (some (Addr.mk m2 0 none)), Value.pointer (some (Addr.mk m3 0
  none)), Value.bool true, Value.func (Fn.func f_p_lex_reader_lines_fn1) (Array.mk []) (Array.mk [Value.pointer (some (Addr.mk m5 0 none)), Value.pointer (some (Addr.mk m6 0 none))])] h47 Q) (bC (n12
  == 32) (unitAt P f_p_lex_reader_lines 5 [0, 3, 4, 5, 6] [Value.pointer p1, Value.pointer (some (Addr.mk m2 0 none)), Value.pointer (some (Addr.mk m3 0 none)), Value.bool false, Value.func
  (Fn.func f_p_lex_reader_lines_fn1) (Array.mk []) (Array.mk [Value.pointer (some (Addr.mk m5 0 none)), Value.pointer (some (Addr.mk m6 0 none))])] h40 Q) (bC (n12 == 9) (bC b4 (oB (AW.wr h40 m3 1
  (Value.bool true)) fun h48 => unitAt P f_p_lex_reader_lines 5 [0, 3, 4, 5, 6] [Value.pointer p1, Value.pointer (some (Addr.mk m2 0 none)), Value.pointer (some (Addr.mk m3 0 none)), Value.bool
  false, Value.func (Fn.func f_p_lex_reader_lines_fn1) (Array.mk []) (Array.mk [Value.pointer (some (Addr.mk m5 0 none)), Value.pointer (some (Addr.mk m6 0 none))])] h48 Q) (bC (n12 == 35) (EvQ P
  f_p_lex_reader_peek [Value.pointer p1] h40 fun v49 h50 => vTup v49 fun l51 => lC l51 fun v52 l53 => vInt IntKind.u8 v52 fun n54 => lC l53 fun v55 l56 => vInt IntKind.i64 v55 fun n57 => lN l56
  (unitAt P f_p_lex_reader_lines 23 [0, 3, 4, 5, 6, 12, 13] [Value.pointer p1, Value.pointer (some (Addr.mk m2 0 none)), Value.pointer (some (Addr.mk m3 0 none)), Value.bool false, Value.func
  (Fn.func f_p_lex_reader_lines_fn1) (Array.mk []) (Array.mk [Value.pointer (some (Addr.mk m5 0 none)), Value.pointer (some (Addr.mk m6 0 none))]), Value.int IntKind.u8 n54, Value.int IntKind.i64
  n57] h50 Q)) (bC (n12 == 58) (unitAt P f_p_lex_reader_lines 30 [0, 3, 4, 5, 6, 7, 9, 10] [Value.pointer p1, Value.pointer (some (Addr.mk m2 0 none)), Value.pointer (some (Addr.mk m3 0 none)),
  Value.bool false, Value.func (Fn.func f_p_lex_reader_lines_fn1) (Array.mk []) (Array.mk [Value.pointer (some (Addr.mk m5 0 none)), Value.pointer (some (Addr.mk m6 0 none))]), Value.int IntKind.u8
  n12, Value.int IntKind.i64 n25, Value.pointer (some (Addr.mk (AW.next h8) 0 none))] h40 Q) (bC (n12 == 61) (unitAt P f_p_lex_reader_lines 30 [0, 3, 4, 5, 6, 7, 9, 10] [Value.pointer p1,
  Value.pointer (some (Addr.mk m2 0 none)), Value.pointer (some (Addr.mk m3 0 none)), Value.bool false, Value.func (Fn.func f_p_lex_reader_lines_fn1) (Array.mk []) (Array.mk [Value.pointer (some
  (Addr.mk m5 0 none)), Value.pointer (some (Addr.mk m6 0 none))]), Value.int IntKind.u8 n12, Value.int IntKind.i64 n25, Value.pointer (some (Addr.mk (AW.next h8) 0 none))] h40 Q)
  (bC (n12 == 34) (unitAt P f_p_lex_reader_lines 30 [0, 3, 4, 5, 6, 7, 9, 10] [Value.pointer p1, Value.pointer (some (Addr.mk m2 0 none)), Value.pointer (some (Addr.mk m3 0 none)), Value.bool
  false, Value.func (Fn.func f_p_lex_reader_lines_fn1) (Array.mk []) (Array.mk [Value.pointer (some (Addr.mk m5 0 none)), Value.pointer (some (Addr.mk m6 0 none))]), Value.int IntKind.u8 n12,
  Value.int IntKind.i64 n25, Value.pointer (some (Addr.mk (AW.next h8) 0 none))] h40 Q) (EvQ P f_lex_bare [Value.int IntKind.u8 n12] h40 fun v58 h59 => vBool v58 fun b60 => bC b60
  (unitAt P f_p_lex_reader_lines 30 [0, 3, 4, 5, 6, 7, 9, 10] [Value.pointer p1, Value.pointer (some (Addr.mk m2 0 none)), Value.pointer (some (Addr.mk m3 0 none)), Value.bool false, Value.func
  (Fn.func f_p_lex_reader_lines_fn1) (Array.mk []) (Array.mk [Value.pointer (some (Addr.mk m5 0 none)), Value.pointer (some (Addr.mk m6 0 none))]), Value.int IntKind.u8 n12, Value.int IntKind.i64
  n25, Value.pointer (some (Addr.mk (AW.next h8) 0 none))] h59 Q) False)))))) (bC (n12 == 35) (EvQ P f_p_lex_reader_peek [Value.pointer p1] h40 fun v61 h62 => vTup v61 fun l63 => lC l63 fun v64
  l65 => vInt IntKind.u8 v64 fun n66 => lC l65 fun v67 l68 => vInt IntKind.i64 v67 fun n69 => lN l68 (unitAt P f_p_lex_reader_lines 23 [0, 3, 4, 5, 6, 12, 13] [Value.pointer p1, Value.pointer
  (some (Addr.mk m2 0 none)), Value.pointer (some (Addr.mk m3 0 none)), Value.bool false, Value.func (Fn.func f_p_lex_reader_lines_fn1) (Array.mk []) (Array.mk [Value.pointer (some (Addr.mk m5 0
  none)), Value.pointer (some (Addr.mk m6 0 none))]), Value.int IntKind.u8 n66, Value.int IntKind.i64 n69] h62 Q)) (bC (n12 == 58) (unitAt P f_p_lex_reader_lines 30 [0, 3, 4, 5, 6, 7, 9, 10]
  [Value.pointer p1, Value.pointer (some (Addr.mk m2 0 none)), Value.pointer (some (Addr.mk m3 0 none)), Value.bool false, Value.func (Fn.func f_p_lex_reader_lines_fn1) (Array.mk []) (Array.mk
  [Value.pointer (some (Addr.mk m5 0 none)), Value.pointer (some (Addr.mk m6 0 none))]), Value.int IntKind.u8 n12, Value.int IntKind.i64 n25, Value.pointer (some (Addr.mk (AW.next
  h8) 0 none))] h40 Q) (bC (n12 == 61) (unitAt P f_p_lex_reader_lines 30 [0, 3, 4, 5, 6, 7, 9, 10] [Value.pointer p1, Value.pointer (some (Addr.mk m2 0 none)), Value.pointer (some (Addr.mk m3 0
  none)), Value.bool false, Value.func (Fn.func f_p_lex_reader_lines_fn1) (Array.mk []) (Array.mk [Value.pointer (some (Addr.mk m5 0 none)), Value.pointer (some (Addr.mk m6 0 none))]), Value.int
  IntKind.u8 n12, Value.int IntKind.i64 n25, Value.pointer (some (Addr.mk (AW.next h8) 0 none))] h40 Q) (bC (n12 == 34) (unitAt P f_p_lex_reader_lines 30 [0, 3, 4, 5, 6, 7, 9, 10] [Value.pointer
  p1, Value.pointer (some (Addr.mk m2 0 none)), Value.pointer (some (Addr.mk m3 0 none)), Value.bool false, Value.func (Fn.func f_p_lex_reader_lines_fn1) (Array.mk []) (Array.mk [Value.pointer (some
  (Addr.mk m5 0 none)), Value.pointer (some (Addr.mk m6 0 none))]), Value.int IntKind.u8 n12, Value.int IntKind.i64 n25, Value.pointer (some (Addr.mk (AW.next h8) 0 none))] h40 Q)
  (EvQ P f_lex_bare [Value.int IntKind.u8 n12] h40 fun v70 h71 => vBool v70 fun b72 => bC b72 (unitAt P f_p_lex_reader_lines 30 [0, 3, 4, 5, 6, 7, 9, 10] [Value.pointer p1, Value.pointer (some (Addr.mk
  m2 0 none)), Value.pointer (some (Addr.mk m3 0 none)), Value.bool false, Value.func (Fn.func f_p_lex_reader_lines_fn1) (Array.mk []) (Array.mk [Value.pointer (some (Addr.mk m5 0 none)),
  Value.pointer (some (Addr.mk m6 0 none))]), Value.int IntKind.u8 n12, Value.int IntKind.i64 n25, Value.pointer (some (Addr.mk (AW.next h8) 0 none))] h71 Q) False)))))))))) :
  unitAt P f_p_lex_reader_lines 5 [0, 3, 4, 5, 6] [Value.pointer p1, Value.pointer (some (Addr.mk m2 0 none)), Value.pointer (some (Addr.mk m3 0 none)), Value.bool b4, Value.func (Fn.func f_p_lex_reader_lines_fn1)
  (Array.mk []) (Array.mk [Value.pointer (some (Addr.mk m5 0 none)), Value.pointer (some (Addr.mk m6 0 none))])] h Q := unit_ok (n := 400) (ann := annOf [(5, [0, 3, 4, 5, 6]), (23,
  [0, 3, 4, 5, 6, 12, 13]), (30, [0, 3, 4, 5, 6, 7, 9, 10]), (35, [0, 3, 4, 5, 6, 7, 10]), (37, [0, 3, 4, 5, 6, 9, 10, 14, 15])]) (Eq.mp (by kernel_rfl) H)
theorem r_p_lex_reader_lines_30 {p1 : Option Addr} {m2 : Nat} {m3 : Nat} {b4 : Bool} {m5 : Nat} {m6 : Nat} {n7 : Int} {n8 : Int} {m9 : Nat} {h : AW} {Q : Value → AW → Prop} (H : bC (n7 == 34)
  (EvQ P f_p_lex_reader_quoted [Value.pointer p1, Value.int IntKind.i64 n8] h fun v10 h11 => vStr v10 fun s12 => oB (AW.wr h11 m9 0 (Value.string s12)) fun h13 => oB (AW.wr h13 m9 3 (Value.bool
  true)) fun h14 => oB (AW.rd h14 m3 2) fun v15 => vSl v15 fun p16 m17 m18 => oB (AW.rd h14 m9 0) fun v19 => vStr v19 fun s20 => oB (AW.rd h14 m9 1) fun v21 => vInt IntKind.i64 v21
  fun n22 => oB (AW.rd h14 m9 2) fun v23 => vInt IntKind.i64 v23 fun n24 => oB (AW.rd h14 m9 3) fun v25 => vBool v25 fun b26 => oB (AW.rd h14 m9 4) fun v27 => vBool v27 fun b28 =>
  oP (appendB P (AW.addVar h14 [Value.string s20, Value.int IntKind.i64 n22, Value.int IntKind.i64 n24, Value.bool b26, Value.bool b28]) (Array.mk [ty_sl_api_Word, ty_sl_api_Word]) [Value.slice p16
  m17 m18, Value.slice (some (Addr.mk (AW.next h14) 0 none)) 1 1]) fun v29 h30 => vSl v29 fun p31 m32 m33 => oB (AW.wr h30 m3 2 (Value.slice p31 m32 m33)) fun h34 => unitAt P f_p_lex_reader_lines
  5 [0, 3, 4, 5, 6] [Value.pointer p1, Value.pointer (some (Addr.mk m2 0 none)), Value.pointer (some (Addr.mk m3 0 none)), Value.bool b4, Value.func (Fn.func f_p_lex_reader_lines_fn1) (Array.mk [])
  (Array.mk [Value.pointer (some (Addr.mk m5 0 none)), Value.pointer (some (Addr.mk m6 0 none))])] h34 Q) (bC (n7 == 58) (unitAt P f_p_lex_reader_lines 35 [0, 3, 4, 5, 6, 7, 10] [Value.pointer p1,
  Value.pointer (some (Addr.mk m2 0 none)), Value.pointer (some (Addr.mk m3 0 none)), Value.bool b4, Value.func (Fn.func f_p_lex_reader_lines_fn1) (Array.mk []) (Array.mk [Value.pointer (some
  (Addr.mk m5 0 none)), Value.pointer (some (Addr.mk m6 0 none))]), Value.int IntKind.u8 n7, Value.pointer (some (Addr.mk m9 0 none))] h Q) (bC (n7 == 61) (unitAt P f_p_lex_reader_lines 35 [0, 3,
  4, 5, 6, 7, 10] [Value.pointer p1, Value.pointer (some (Addr.mk m2 0 none)), Value.pointer (some (Addr.mk m3 0 none)), Value.bool b4, Value.func (Fn.func f_p_lex_reader_lines_fn1) (Array.mk [])
  (Array.mk [Value.pointer (some (Addr.mk m5 0 none)), Value.pointer (some (Addr.mk m6 0 none))]), Value.int IntKind.u8 n7, Value.pointer (some (Addr.mk m9 0 none))] h Q) (EvQ P
  f_p_lex_reader_peek [Value.pointer p1] h fun v35 h36 => vTup v35 fun l37 => lC l37 fun v38 l39 => vInt IntKind.u8 v38 fun n40 => lC l39 fun v41 l42 => vInt IntKind.i64 v41 fun n43 => lN l42
  (unitAt P f_p_lex_reader_lines 37 [0, 3, 4, 5, 6, 9, 10, 14, 15] [Value.pointer p1, Value.pointer (some (Addr.mk m2 0 none)), Value.pointer (some (Addr.mk m3 0 none)), Value.bool b4, Value.func
  (Fn.func f_p_lex_reader_lines_fn1) (Array.mk []) (Array.mk [Value.pointer (some (Addr.mk m5 0 none)), Value.pointer (some (Addr.mk m6 0 none))]), Value.int IntKind.i64 n8, Value.pointer (some
  (Addr.mk m9 0 none)), Value.int IntKind.u8 n40, Value.int IntKind.i64 n43] h36 Q))))) : unitAt P f_p_lex_reader_lines 30 [0, 3, 4, 5, 6, 7, 9, 10] [Value.pointer p1, Value.pointer (some (Addr.mk
  m2 0 none)), Value.pointer (some (Addr.mk m3 0 none)), Value.bool b4, Value.func (Fn.func f_p_lex_reader_lines_fn1) (Array.mk []) (Array.mk [Value.pointer (some (Addr.mk m5 0 none)), Value.pointer
  (some (Addr.mk m6 0 none))]), Value.int IntKind.u8 n7, Value.int IntKind.i64 n8, Value.pointer (some (Addr.mk m9 0 none))] h Q := unit_ok (n := 400) (ann := annOf [(5, [0, 3, 4,
  5, 6]), (23, [0, 3, 4, 5, 6, 12, 13]), (30, [0, 3, 4, 5, 6, 7, 9, 10]), (35, [0, 3, 4, 5, 6, 7, 10]), (37, [0, 3, 4, 5, 6, 9, 10, 14, 15])]) (Eq.mp (by kernel_rfl) H)
theorem r_p_lex_reader_lines_37 {p1 : Option Addr} {m2 : Nat} {m3 : Nat} {b4 : Bool} {m5 : Nat} {m6 : Nat} {n7 : Int} {m8 : Nat} {n9 : Int} {n10 : Int} {h : AW} {Q : Value → AW → Prop} (H : bC
  (n10 == 1) (EvQ P f_lex_bare [Value.int IntKind.u8 n9] h fun v11 h12 => vBool v11 fun b13 => bC b13 (EvQ P f_p_lex_reader_next [Value.pointer p1] h12 fun v14 h15 => EvQ P f_p_lex_reader_peek [Value.pointer p1]
  h15 fun v16 h17 => vTup v16 fun l18 => lC l18 fun v19 l20 => vInt IntKind.u8 v19 fun n21 => lC l20 fun v22 l23 => vInt IntKind.i64 v22 fun n24 => lN l23 (unitAt P f_p_lex_reader_lines 37 [0, 3,
  4, 5, 6, 9, 10, 14, 15] [Value.pointer p1, Value.pointer (some (Addr.mk m2 0 none)), Value.pointer (some (Addr.mk m3 0 none)), Value.bool b4, Value.func (Fn.func f_p_lex_reader_lines_fn1) (Array.mk
  []) (Array.mk [Value.pointer (some (Addr.mk m5 0 none)), Value.pointer (some (Addr.mk m6 0 none))]), Value.int IntKind.i64 n7, Value.pointer (some (Addr.mk m8 0 none)), Value.int
  IntKind.u8 n21, Value.int IntKind.i64 n24] h17 Q)) (aP p1 fun m25 m26 => oB (AW.rd h12 m25 m26) fun v27 => vStr v27 fun s28 => aP p1 fun m29 m30 => oB (AW.rd h12 m29 (m30 + 1))
  fun v31 => vInt IntKind.i64 v31 fun n32 => oB (natBnd n32 (ByteArray.size s28)) fun m33 => oB (natBnd n7 m33) fun m34 => oB (AW.wr h12 m8 0 (Value.string (bSub s28 m34 m33))) fun
  h35 => oB (AW.rd h35 m3 2) fun v36 => vSl v36 fun p37 m38 m39 => oB (AW.rd h35 m8 0) fun v40 => vStr v40 fun s41 => oB (AW.rd h35 m8 1) fun v42 => vInt IntKind.i64 v42 fun n43 =>
  oB (AW.rd h35 m8 2) fun v44 => vInt IntKind.i64 v44 fun n45 => oB (AW.rd h35 m8 3) fun v46 => vBool v46 fun b47 => oB (AW.rd h35 m8 4) fun v48 => vBool v48 fun b49 => oP (appendB
  P (AW.addVar h35 [Value.string s41, Value.int IntKind.i64 n43, Value.int IntKind.i64 n45, Value.bool b47, Value.bool b49]) (Array.mk [ty_sl_api_Word, ty_sl_api_Word]) [Value.slice p37 m38 m39,
  Value.slice (some (Addr.mk (AW.next h35) 0 none)) 1 1]) fun v50 h51 => vSl v50 fun p52 m53 m54 => oB (AW.wr h51 m3 2 (Value.slice p52 m53 m54)) fun h55 => unitAt P f_p_lex_reader_lines 5 [0, 3,
  4, 5, 6] [Value.pointer p1, Value.pointer (some (Addr.mk m2 0 none)), Value.pointer (some (Addr.mk m3 0 none)), Value.bool b4, Value.func (Fn.func f_p_lex_reader_lines_fn1) (Array.mk []) (Array.mk
  [Value.pointer (some (Addr.mk m5 0 none)), Value.pointer (some (Addr.mk m6 0 none))])] h55 Q)) (aP p1 fun m56 m57 => oB (AW.rd h m56 m57) fun v58 => vStr v58 fun s59 => aP p1 fun
  m60 m61 => oB (AW.rd h m60 (m61 + 1)) fun v62 => vInt IntKind.i64 v62 fun n63 => oB (natBnd n63 (ByteArray.size s59)) fun m64 => oB (natBnd n7 m64) fun m65 => oB (AW.wr h m8 0
  (Value.string (bSub s59 m65 m64))) fun h66 => oB (AW.rd h66 m3 2) fun v67 => vSl v67 fun p68 m69 m70 => oB (AW.rd h66 m8 0) fun v71 => vStr v71 fun s72 => oB (AW.rd h66 m8 1) fun
  v73 => vInt IntKind.i64 v73 fun n74 => oB (AW.rd h66 m8 2) fun v75 => vInt IntKind.i64 v75 fun n76 => oB (AW.rd h66 m8 3) fun v77 => vBool v77 fun b78 => oB (AW.rd h66 m8 4) fun
  v79 => vBool v79 fun b80 => oP (appendB P (AW.addVar h66 [Value.string s72, Value.int IntKind.i64 n74, Value.int IntKind.i64 n76, Value.bool b78, Value.bool b80]) (Array.mk
  [ty_sl_api_Word, ty_sl_api_Word]) [Value.slice p68 m69 m70, Value.slice (some (Addr.mk (AW.next h66) 0 none)) 1 1]) fun v81 h82 => vSl v81 fun p83 m84 m85 => oB (AW.wr h82 m3 2 (Value.slice p83
  m84 m85)) fun h86 => unitAt P f_p_lex_reader_lines 5 [0, 3, 4, 5, 6] [Value.pointer p1, Value.pointer (some (Addr.mk m2 0 none)), Value.pointer (some (Addr.mk m3 0 none)), Value.bool b4,
  Value.func (Fn.func f_p_lex_reader_lines_fn1) (Array.mk []) (Array.mk [Value.pointer (some (Addr.mk m5 0 none)), Value.pointer (some (Addr.mk m6 0 none))])] h86 Q)) : unitAt P f_p_lex_reader_lines 37 [0, 3, 4, 5,
  6, 9, 10, 14, 15] [Value.pointer p1, Value.pointer (some (Addr.mk m2 0 none)), Value.pointer (some (Addr.mk m3 0 none)), Value.bool b4, Value.func (Fn.func f_p_lex_reader_lines_fn1) (Array.mk [])
  (Array.mk [Value.pointer (some (Addr.mk m5 0 none)), Value.pointer (some (Addr.mk m6 0 none))]), Value.int IntKind.i64 n7, Value.pointer (some (Addr.mk m8 0 none)), Value.int
  IntKind.u8 n9, Value.int IntKind.i64 n10] h Q := unit_ok (n := 400) (ann := annOf [(5, [0, 3, 4, 5, 6]), (23, [0, 3, 4, 5, 6, 12, 13]), (30, [0, 3, 4, 5, 6, 7, 9, 10]), (35, [0,
  3, 4, 5, 6, 7, 10]), (37, [0, 3, 4, 5, 6, 9, 10, 14, 15])]) (Eq.mp (by kernel_rfl) H)
theorem r_lex_Plain {s1 : ByteArray} {h : AW} {Q : Value → AW → Prop} (H : unitAt P f_lex_Plain 2 [0, 5, 6] [Value.string s1, Value.int IntKind.i64 (↑(ByteArray.size s1) : Int), Value.int
  IntKind.i64 0] h Q) : EvQ P f_lex_Plain [Value.string s1] h Q := fn_ok (n := 400) (ann := annOf [(2, [0, 5, 6])]) (Eq.mp (by kernel_rfl) H)
theorem r_lex_Plain_2 {s1 : ByteArray} {n2 : Int} {n3 : Int} {h : AW} {Q : Value → AW → Prop} (H : bC (decide (n3 < n2)) (oB (natIdx n3 (ByteArray.size s1)) fun m4 => oB (bAt s1 m4) fun
  n5 => EvQ P f_lex_bare [Value.int IntKind.u8 n5] h fun v6 h7 => vBool v6 fun b8 => bC (!b8) (Q (Value.bool false) h7) (unitAt P f_lex_Plain 2 [0, 5, 6] [Value.string s1, Value.int
  IntKind.i64 n2, Value.int IntKind.i64 (IntKind.wrap IntKind.i64 (n3 + 1))] h7 Q)) (Q (Value.bool !bEq s1 (ByteArray.mk #[])) h)) : unitAt P f_lex_Plain 2 [0, 5, 6] [Value.string s1,
  Value.int IntKind.i64 n2, Value.int IntKind.i64 n3] h Q := unit_ok (n := 400) (ann := annOf [(2, [0, 5, 6])]) (Eq.mp (by kernel_rfl) H)
theorem r_lex_Quote {s1 : ByteArray} {h : AW} {Q : Value → AW → Prop} (H : EvQ P f_p_strings_Builder_WriteByte [Value.pointer (some (Addr.mk (AW.next h) 0 none)), Value.int IntKind.u8 34] (AW.tag (AW.addVar h
  [Value.pointer none, Value.slice none 0 0]) (AW.next h) ty_strings_Builder) fun v2 h3 => vIfc v2 (unitAt P f_lex_Quote 4 [0, 3, 8, 9] [Value.string s1, Value.pointer (some (Addr.mk (AW.next h) 0
  none)), Value.int IntKind.i64 (↑(ByteArray.size s1) : Int), Value.int IntKind.i64 0] h3 Q) fun m4 v5 => unitAt P f_lex_Quote 4 [0, 3, 8, 9] [Value.string s1, Value.pointer (some
  (Addr.mk (AW.next h) 0 none)), Value.int IntKind.i64 (↑(ByteArray.size s1) : Int), Value.int IntKind.i64 0] h3 Q) : EvQ P f_lex_Quote [Value.string s1] h Q := fn_ok (n := 400) (ann :=
  annOf [(4, [0, 3, 8, 9]), (14, [0, 3, 5, 8, 9]), (15, [0, 3, 5, 8, 9])]) (Eq.mp (by kernel_rfl) H)
theorem r_lex_Quote_4 {s1 : ByteArray} {m2 : Nat} {n3 : Int} {n4 : Int} {h : AW} {Q : Value → AW → Prop} (H : bC (decide (n4 < n3)) (oB (natIdx n4 (ByteArray.size s1)) fun m5 => oB (bAt
  s1 m5) fun n6 => bC (n6 == 10) (EvQ P f_p_strings_Builder_WriteString [Value.pointer (some (Addr.mk m2 0 none)), Value.string (ByteArray.mk #[92, 110])] h fun v7 h8 => vTup v7 fun l9 => lC l9 fun v10 l11
  => vInt IntKind.i64 v10 fun n12 => lC l11 fun v13 l14 => vIfc v13 (lN l14 (unitAt P f_lex_Quote 4 [0, 3, 8, 9] [Value.string s1, Value.pointer (some (Addr.mk m2 0 none)), Value.int
  IntKind.i64 n3, Value.int IntKind.i64 (IntKind.wrap IntKind.i64 (n4 + 1))] h8 Q)) fun m15 v16 => lN l14 (unitAt P f_lex_Quote 4 [0, 3, 8, 9] [Value.string s1, Value.pointer (some
  (Addr.mk m2 0 none)), Value.int IntKind.i64 n3, Value.int IntKind.i64 (IntKind.wrap IntKind.i64 (n4 + 1))] h8 Q)) (bC (n6 == 9) (EvQ P f_p_strings_Builder_WriteString [Value.pointer (some (Addr.mk m2 0
  none)), Value.string (ByteArray.mk #[92, 116])] h fun v17 h18 => vTup v17 fun l19 => lC l19 fun v20 l21 => vInt IntKind.i64 v20 fun n22 => lC l21 fun v23 l24 => vIfc v23 (lN l24
  (unitAt P f_lex_Quote 4 [0, 3, 8, 9] [Value.string s1, Value.pointer (some (Addr.mk m2 0 none)), Value.int IntKind.i64 n3, Value.int IntKind.i64 (IntKind.wrap IntKind.i64 (n4 + 1))] h18
  Q)) fun m25 v26 => lN l24 (unitAt P f_lex_Quote 4 [0, 3, 8, 9] [Value.string s1, Value.pointer (some (Addr.mk m2 0 none)), Value.int IntKind.i64 n3, Value.int IntKind.i64 (IntKind.wrap
  IntKind.i64 (n4 + 1))] h18 Q)) (bC (n6 == 34) (unitAt P f_lex_Quote 14 [0, 3, 5, 8, 9] [Value.string s1, Value.pointer (some (Addr.mk m2 0 none)), Value.int IntKind.u8 n6, Value.int
  IntKind.i64 n3, Value.int IntKind.i64 n4] h Q) (bC (n6 == 92) (unitAt P f_lex_Quote 14 [0, 3, 5, 8, 9] [Value.string s1, Value.pointer (some (Addr.mk m2 0 none)), Value.int IntKind.u8
  n6, Value.int IntKind.i64 n3, Value.int IntKind.i64 n4] h Q) (unitAt P f_lex_Quote 15 [0, 3, 5, 8, 9] [Value.string s1, Value.pointer (some (Addr.mk m2 0 none)), Value.int IntKind.u8
  n6, Value.int IntKind.i64 n3, Value.int IntKind.i64 n4] h Q))))) (EvQ P f_p_strings_Builder_WriteByte [Value.pointer (some (Addr.mk m2 0 none)), Value.int IntKind.u8 34] h fun v27 h28 => vIfc v27 (EvQ P
  f_p_strings_Builder_String [Value.pointer (some (Addr.mk m2 0 none))] h28 fun v29 h30 => vStr v29 fun s31 => Q (Value.string s31) h30) fun m32 v33 => EvQ P f_p_strings_Builder_String [Value.pointer (some (Addr.mk m2 0
  none))] h28 fun v34 h35 => vStr v34 fun s36 => Q (Value.string s36) h35)) : unitAt P f_lex_Quote 4 [0, 3, 8, 9] [Value.string s1, Value.pointer (some (Addr.mk m2 0 none)), Value.int
  IntKind.i64 n3, Value.int IntKind.i64 n4] h Q := unit_ok (n := 400) (ann := annOf [(4, [0, 3, 8, 9]), (14, [0, 3, 5, 8, 9]), (15, [0, 3, 5, 8, 9])]) (Eq.mp (by kernel_rfl) H)
theorem r_lex_Quote_14 {s1 : ByteArray} {m2 : Nat} {n3 : Int} {n4 : Int} {n5 : Int} {h : AW} {Q : Value → AW → Prop} (H : EvQ P f_p_strings_Builder_WriteByte [Value.pointer (some (Addr.mk m2 0 none)), Value.int
  IntKind.u8 92] h fun v6 h7 => vIfc v6 (unitAt P f_lex_Quote 15 [0, 3, 5, 8, 9] [Value.string s1, Value.pointer (some (Addr.mk m2 0 none)), Value.int IntKind.u8 n3, Value.int IntKind.i64
  n4, Value.int IntKind.i64 n5] h7 Q) fun m8 v9 => unitAt P f_lex_Quote 15 [0, 3, 5, 8, 9] [Value.string s1, Value.pointer (some (Addr.mk m2 0 none)), Value.int IntKind.u8 n3, Value.int
  IntKind.i64 n4, Value.int IntKind.i64 n5] h7 Q) : unitAt P f_lex_Quote 14 [0, 3, 5, 8, 9] [Value.string s1, Value.pointer (some (Addr.mk m2 0 none)), Value.int IntKind.u8 n3, Value.int
  IntKind.i64 n4, Value.int IntKind.i64 n5] h Q := unit_ok (n := 400) (ann := annOf [(4, [0, 3, 8, 9]), (14, [0, 3, 5, 8, 9]), (15, [0, 3, 5, 8, 9])]) (Eq.mp (by kernel_rfl) H)
theorem r_lex_Quote_15 {s1 : ByteArray} {m2 : Nat} {n3 : Int} {n4 : Int} {n5 : Int} {h : AW} {Q : Value → AW → Prop} (H : EvQ P f_p_strings_Builder_WriteByte [Value.pointer (some (Addr.mk m2 0 none)), Value.int
  IntKind.u8 n3] h fun v6 h7 => vIfc v6 (unitAt P f_lex_Quote 4 [0, 3, 8, 9] [Value.string s1, Value.pointer (some (Addr.mk m2 0 none)), Value.int IntKind.i64 n4, Value.int IntKind.i64
  (IntKind.wrap IntKind.i64 (n5 + 1))] h7 Q) fun m8 v9 => unitAt P f_lex_Quote 4 [0, 3, 8, 9] [Value.string s1, Value.pointer (some (Addr.mk m2 0 none)), Value.int IntKind.i64 n4,
  Value.int IntKind.i64 (IntKind.wrap IntKind.i64 (n5 + 1))] h7 Q) : unitAt P f_lex_Quote 15 [0, 3, 5, 8, 9] [Value.string s1, Value.pointer (some (Addr.mk m2 0 none)), Value.int
  IntKind.u8 n3, Value.int IntKind.i64 n4, Value.int IntKind.i64 n5] h Q := unit_ok (n := 400) (ann := annOf [(4, [0, 3, 8, 9]), (14, [0, 3, 5, 8, 9]), (15, [0, 3, 5, 8, 9])])
  (Eq.mp (by kernel_rfl) H)
theorem r_p_lex_reader_lines_fn1 {m1 : Nat} {m2 : Nat} {m3 : Nat} {m4 : Nat} {h : AW} {Q : Value → AW → Prop} (H : oB (AW.rd h m1 (m2 + 2)) fun v5 => vSl v5 fun p6 m7 m8 => bC (decide ((↑m7 : Int)
  > 0)) (oB (AW.rd h m3 m4) fun v9 => vSl v9 fun p10 m11 m12 => oB (AW.rd h m1 m2) fun v13 => vInt IntKind.i64 v13 fun n14 => oB (AW.rd h m1 (m2 + 1)) fun v15 => vBool v15 fun b16
  => oB (AW.rd h m1 (m2 + 1 + 1)) fun v17 => vSl v17 fun p18 m19 m20 => oP (appendB P (AW.addVar h [Value.int IntKind.i64 n14, Value.bool b16, Value.slice p18 m19 m20]) (Array.mk
  [ty_sl_api_Line, ty_sl_api_Line]) [Value.slice p10 m11 m12, Value.slice (some (Addr.mk (AW.next h) 0 none)) 1 1]) fun v21 h22 => vSl v21 fun p23 m24 m25 => oB (AW.wr h22 m3 m4 (Value.slice p23 m24
  m25)) fun h26 => Q (Value.tuple (Array.mk [])) h26) (Q (Value.tuple (Array.mk [])) h)) : EvQ P f_p_lex_reader_lines_fn1 [Value.pointer (some (Addr.mk m1 m2 none)), Value.pointer (some (Addr.mk m3
  m4 none))] h Q := fn_ok (n := 400) (ann := annOf []) (Eq.mp (by kernel_rfl) H)
theorem r_p_lex_reader_peek {p1 : Option Addr} {h : AW} {Q : Value → AW → Prop} (H : aP p1 fun m2 m3 => oB (AW.rd h m2 (m3 + 1)) fun v4 => vInt IntKind.i64 v4 fun n5 => aP p1 fun m6 m7 => oB
  (AW.rd h m6 m7) fun v8 => vStr v8 fun s9 => bC (n5 == (↑(ByteArray.size s9) : Int)) (Q (Value.tuple (Array.mk [Value.int IntKind.u8 0, Value.int IntKind.i64 0])) h) (aP p1 fun
  m10 m11 => oB (AW.rd h m10 m11) fun v12 => vStr v12 fun s13 => aP p1 fun m14 m15 => oB (AW.rd h m14 (m15 + 1)) fun v16 => vInt IntKind.i64 v16 fun n17 => oB (natBnd n17
  (ByteArray.size s13)) fun m18 => EvQ P f_strings_HasPrefix [Value.string (bSub s13 m18 (ByteArray.size s13)), Value.string (ByteArray.mk #[92, 10])] h fun v19 h20 => vBool v19 fun b21 => bC
  b21 (Q (Value.tuple (Array.mk [Value.int IntKind.u8 32, Value.int IntKind.i64 2])) h20) (aP p1 fun m22 m23 => oB (AW.rd h20 m22 m23) fun v24 => vStr v24 fun s25 => aP p1 fun m26
  m27 => oB (AW.rd h20 m26 (m27 + 1)) fun v28 => vInt IntKind.i64 v28 fun n29 => oB (natIdx n29 (ByteArray.size s25)) fun m30 => oB (bAt s25 m30) fun n31 => Q (Value.tuple
  (Array.mk [Value.int IntKind.u8 n31, Value.int IntKind.i64 1])) h20))) : EvQ P f_p_lex_reader_peek [Value.pointer p1] h Q := fn_ok (n := 400) (ann := annOf []) (Eq.mp (by kernel_rfl) H)
theorem r_p_lex_reader_next {p1 : Option Addr} {h : AW} {Q : Value → AW → Prop} (H : EvQ P f_p_lex_reader_peek [Value.pointer p1] h fun v2 h3 => vTup v2 fun l4 => lC l4 fun v5 l6 => vInt IntKind.u8 v5 fun
  n7 => lC l6 fun v8 l9 => vInt IntKind.i64 v8 fun n10 => lN l9 (aP p1 fun m11 m12 => oB (AW.rd h3 m11 (m12 + 3)) fun v13 => vInt IntKind.i64 v13 fun n14 => aP p1 fun m15 m16 => oB
  (AW.wr h3 m15 (m16 + 3) (Value.int IntKind.i64 (IntKind.wrap IntKind.i64 (n14 + n10)))) fun h17 => bC (decide (n10 > 0)) (aP p1 fun m18 m19 => oB (AW.rd h17 m18 m19) fun v20 =>
  vStr v20 fun s21 => aP p1 fun m22 m23 => oB (AW.rd h17 m22 (m23 + 1)) fun v24 => vInt IntKind.i64 v24 fun n25 => oB (natIdx (IntKind.wrap IntKind.i64 (IntKind.wrap IntKind.i64
  (n25 + n10) - 1)) (ByteArray.size s21)) fun m26 => oB (bAt s21 m26) fun n27 => bC (n27 == 10) (aP p1 fun m28 m29 => oB (AW.rd h17 m28 (m29 + 2)) fun v30 => vInt IntKind.i64 v30
  fun n31 => aP p1 fun m32 m33 => oB (AW.wr h17 m32 (m33 + 2) (Value.int IntKind.i64 (IntKind.wrap IntKind.i64 (n31 + 1)))) fun h34 => aP p1 fun m35 m36 => oB (AW.wr h34 m35 (m36 +
  3) (Value.int IntKind.i64 0)) fun h37 => unitAt P f_p_lex_reader_next 4 [0, 3] [Value.pointer p1, Value.int IntKind.i64 n10] h37 Q) (unitAt P f_p_lex_reader_next 4 [0, 3] [Value.pointer p1, Value.int
  IntKind.i64 n10] h17 Q)) (unitAt P f_p_lex_reader_next 4 [0, 3] [Value.pointer p1, Value.int IntKind.i64 n10] h17 Q))) : EvQ P f_p_lex_reader_next [Value.pointer p1] h Q := fn_ok (n := 400) (ann := annOf
  [(4, [0, 3])]) (Eq.mp (by kernel_rfl) H)
theorem r_p_lex_reader_next_4 {p1 : Option Addr} {n2 : Int} {h : AW} {Q : Value → AW → Prop} (H : aP p1 fun m3 m4 => oB (AW.rd h m3 (m4 + 1)) fun v5 => vInt IntKind.i64 v5 fun n6 => aP p1 fun
  m7 m8 => oB (AW.wr h m7 (m8 + 1) (Value.int IntKind.i64 (IntKind.wrap IntKind.i64 (n6 + n2)))) fun h9 => Q (Value.tuple (Array.mk [])) h9) : unitAt P f_p_lex_reader_next 4 [0, 3]
  [Value.pointer p1, Value.int IntKind.i64 n2] h Q := unit_ok (n := 400) (ann := annOf [(4, [0, 3])]) (Eq.mp (by kernel_rfl) H)
theorem r_lex_bare {n1 : Int} {h : AW} {Q : Value → AW → Prop} (H : bC (n1 == 34) (Q (Value.bool false) h) (bC (n1 == 35) (Q (Value.bool false) h) (bC (n1 == 58) (Q (Value.bool false)
  h) (bC (n1 == 61) (Q (Value.bool false) h) (bC (n1 == 92) (Q (Value.bool false) h) (bC (decide (n1 > 32)) (Q (Value.bool (decide (n1 < 127))) h) (Q (Value.bool false) h))))))) :
  EvQ P f_lex_bare [Value.int IntKind.u8 n1] h Q := fn_ok (n := 400) (ann := annOf []) (Eq.mp (by kernel_rfl) H)
theorem r_p_lex_reader_quoted {p1 : Option Addr} {n2 : Int} {h : AW} {Q : Value → AW → Prop} (H : unitAt P f_p_lex_reader_quoted 2 [0, 1, 5] [Value.pointer p1, Value.int IntKind.i64 n2, Value.pointer (some
  (Addr.mk (AW.next h) 0 none))] (AW.tag (AW.addVar h [Value.pointer none, Value.slice none 0 0]) (AW.next h) ty_strings_Builder) Q) : EvQ P f_p_lex_reader_quoted [Value.pointer p1, Value.int IntKind.i64 n2]
  h Q := fn_ok (n := 400) (ann := annOf [(2, [0, 1, 5]), (5, [0, 1, 5, 6, 7]), (15, [0, 1, 5, 11])]) (Eq.mp (by kernel_rfl) H)
theorem r_p_lex_reader_quoted_2 {p1 : Option Addr} {n2 : Int} {m3 : Nat} {h : AW} {Q : Value → AW → Prop} (H : EvQ P f_p_lex_reader_peek [Value.pointer p1] h fun v4 h5 => vTup v4 fun l6 => lC l6 fun v7 l8 =>
  vInt IntKind.u8 v7 fun n9 => lC l8 fun v10 l11 => vInt IntKind.i64 v10 fun n12 => lN l11 (bC (n12 == 0) False (bC (n12 == 1) (bC (n9 == 10) False (unitAt P f_p_lex_reader_quoted 5 [0, 1, 5, 6,
  7] [Value.pointer p1, Value.int IntKind.i64 n2, Value.pointer (some (Addr.mk m3 0 none)), Value.int IntKind.u8 n9, Value.int IntKind.i64 n12] h5 Q)) (unitAt P f_p_lex_reader_quoted 5 [0, 1, 5,
  6, 7] [Value.pointer p1, Value.int IntKind.i64 n2, Value.pointer (some (Addr.mk m3 0 none)), Value.int IntKind.u8 n9, Value.int IntKind.i64 n12] h5 Q)))) : unitAt P f_p_lex_reader_quoted 2 [0,
  1, 5] [Value.pointer p1, Value.int IntKind.i64 n2, Value.pointer (some (Addr.mk m3 0 none))] h Q := unit_ok (n := 400) (ann := annOf [(2, [0, 1, 5]), (5, [0, 1, 5, 6, 7]), (15,
  [0, 1, 5, 11])]) (Eq.mp (by kernel_rfl) H)
theorem r_p_lex_reader_quoted_5 {p1 : Option Addr} {n2 : Int} {m3 : Nat} {n4 : Int} {n5 : Int} {h : AW} {Q : Value → AW → Prop} (H : aP p1 fun m6 m7 => oB (AW.rd h m6 (m7 + 1)) fun v8 => vInt
  IntKind.i64 v8 fun n9 => EvQ P f_p_lex_reader_next [Value.pointer p1] h fun v10 h11 => bC (n5 == 1) (bC (n4 == 34) (EvQ P f_p_strings_Builder_String [Value.pointer (some (Addr.mk m3 0 none))] h11 fun v12 h13 =>
  vStr v12 fun s14 => Q (Value.string s14) h13) (bC (n5 == 1) (bC (n4 == 92) (EvQ P f_p_lex_reader_peek [Value.pointer p1] h11 fun v15 h16 => vTup v15 fun l17 => lC l17 fun v18 l19 => vInt
  IntKind.u8 v18 fun n20 => lC l19 fun v21 l22 => vInt IntKind.i64 v21 fun n23 => lN l22 (EvQ P f_strings_IndexByte [Value.string (ByteArray.mk #[34, 92, 110, 116]), Value.int IntKind.u8 n20]
  h16 fun v24 h25 => vInt IntKind.i64 v24 fun n26 => bC (n23 != 1) False (bC (decide (n26 < 0)) False (unitAt P f_p_lex_reader_quoted 15 [0, 1, 5, 11] [Value.pointer p1, Value.int IntKind.i64 n2,
  Value.pointer (some (Addr.mk m3 0 none)), Value.int IntKind.i64 n26] h25 Q)))) (EvQ P f_p_strings_Builder_WriteByte [Value.pointer (some (Addr.mk m3 0 none)), Value.int IntKind.u8 n4] h11 fun v27 h28 =>
  vIfc v27 (unitAt P f_p_lex_reader_quoted 2 [0, 1, 5] [Value.pointer p1, Value.int IntKind.i64 n2, Value.pointer (some (Addr.mk m3 0 none))] h28 Q) fun m29 v30 => unitAt P f_p_lex_reader_quoted 2 [0, 1, 5]
  [Value.pointer p1, Value.int IntKind.i64 n2, Value.pointer (some (Addr.mk m3 0 none))] h28 Q)) (EvQ P f_p_strings_Builder_WriteByte [Value.pointer (some (Addr.mk m3 0 none)), Value.int IntKind.u8 n4] h11
  fun v31 h32 => vIfc v31 (unitAt P f_p_lex_reader_quoted 2 [0, 1, 5] [Value.pointer p1, Value.int IntKind.i64 n2, Value.pointer (some (Addr.mk m3 0 none))] h32 Q) fun m33 v34 => unitAt P f_p_lex_reader_quoted 2
  [0, 1, 5] [Value.pointer p1, Value.int IntKind.i64 n2, Value.pointer (some (Addr.mk m3 0 none))] h32 Q))) (bC (n5 == 1) (bC (n4 == 92) (EvQ P f_p_lex_reader_peek [Value.pointer p1] h11 fun v35
  h36 => vTup v35 fun l37 => lC l37 fun v38 l39 => vInt IntKind.u8 v38 fun n40 => lC l39 fun v41 l42 => vInt IntKind.i64 v41 fun n43 => lN l42 (EvQ P f_strings_IndexByte [Value.string
  (ByteArray.mk #[34, 92, 110, 116]), Value.int IntKind.u8 n40] h36 fun v44 h45 => vInt IntKind.i64 v44 fun n46 => bC (n43 != 1) False (bC (decide (n46 < 0)) False (unitAt P f_p_lex_reader_quoted
  15 [0, 1, 5, 11] [Value.pointer p1, Value.int IntKind.i64 n2, Value.pointer (some (Addr.mk m3 0 none)), Value.int IntKind.i64 n46] h45 Q)))) (EvQ P f_p_strings_Builder_WriteByte [Value.pointer (some
  (Addr.mk m3 0 none)), Value.int IntKind.u8 n4] h11 fun v47 h48 => vIfc v47 (unitAt P f_p_lex_reader_quoted 2 [0, 1, 5] [Value.pointer p1, Value.int IntKind.i64 n2, Value.pointer (some (Addr.mk
  m3 0 none))] h48 Q) fun m49 v50 => unitAt P f_p_lex_reader_quoted 2 [0, 1, 5] [Value.pointer p1, Value.int IntKind.i64 n2, Value.pointer (some (Addr.mk m3 0 none))] h48 Q)) (EvQ P f_p_strings_Builder_WriteByte
  [Value.pointer (some (Addr.mk m3 0 none)), Value.int IntKind.u8 n4] h11 fun v51 h52 => vIfc v51 (unitAt P f_p_lex_reader_quoted 2 [0, 1, 5] [Value.pointer p1, Value.int IntKind.i64 n2,
  Value.pointer (some (Addr.mk m3 0 none))] h52 Q) fun m53 v54 => unitAt P f_p_lex_reader_quoted 2 [0, 1, 5] [Value.pointer p1, Value.int IntKind.i64 n2, Value.pointer (some (Addr.mk m3 0 none))]
  h52 Q))) : unitAt P f_p_lex_reader_quoted 5 [0, 1, 5, 6, 7] [Value.pointer p1, Value.int IntKind.i64 n2, Value.pointer (some (Addr.mk m3 0 none)), Value.int IntKind.u8 n4, Value.int IntKind.i64
  n5] h Q := unit_ok (n := 400) (ann := annOf [(2, [0, 1, 5]), (5, [0, 1, 5, 6, 7]), (15, [0, 1, 5, 11])]) (Eq.mp (by kernel_rfl) H)
theorem r_p_lex_reader_quoted_15 {p1 : Option Addr} {n2 : Int} {m3 : Nat} {n4 : Int} {h : AW} {Q : Value → AW → Prop} (H : oB (natIdx n4 4) fun m5 => oB (bAt (ByteArray.mk #[34, 92, 10, 9]) m5)
  fun n6 => EvQ P f_p_strings_Builder_WriteByte [Value.pointer (some (Addr.mk m3 0 none)), Value.int IntKind.u8 n6] h fun v7 h8 => vIfc v7 (EvQ P f_p_lex_reader_next [Value.pointer p1] h8 fun v9 h10 => unitAt P f_p_lex_reader_quoted 2
  [0, 1, 5] [Value.pointer p1, Value.int IntKind.i64 n2, Value.pointer (some (Addr.mk m3 0 none))] h10 Q) fun m11 v12 => EvQ P f_p_lex_reader_next [Value.pointer p1] h8 fun v13 h14 => unitAt P
  f_p_lex_reader_quoted 2 [0, 1, 5] [Value.pointer p1, Value.int IntKind.i64 n2, Value.pointer (some (Addr.mk m3 0 none))] h14 Q) : unitAt P f_p_lex_reader_quoted 15 [0, 1, 5, 11] [Value.pointer p1, Value.int
  IntKind.i64 n2, Value.pointer (some (Addr.mk m3 0 none)), Value.int IntKind.i64 n4] h Q := unit_ok (n := 400) (ann := annOf [(2, [0, 1, 5]), (5, [0, 1, 5, 6, 7]), (15, [0, 1, 5,
  11])]) (Eq.mp (by kernel_rfl) H)
theorem r_strings_HasPrefix {s1 : ByteArray} {s2 : ByteArray} {h : AW} {Q : Value → AW → Prop} (H : EvQ P f_stringslite_HasPrefix [Value.string s1, Value.string s2] h fun v3 h4 => vBool v3 fun b5 => Q
  (Value.bool b5) h4) : EvQ P f_strings_HasPrefix [Value.string s1, Value.string s2] h Q := fn_ok (n := 400) (ann := annOf []) (Eq.mp (by kernel_rfl) H)
theorem r_strings_IndexByte {s1 : ByteArray} {n2 : Int} {h : AW} {Q : Value → AW → Prop} (H : EvQ P f_stringslite_IndexByte [Value.string s1, Value.int IntKind.u8 n2] h fun v3 h4 => vInt IntKind.i64 v3 fun n5
  => Q (Value.int IntKind.i64 n5) h4) : EvQ P f_strings_IndexByte [Value.string s1, Value.int IntKind.u8 n2] h Q := fn_ok (n := 400) (ann := annOf []) (Eq.mp (by kernel_rfl) H)
theorem r_stringslite_HasPrefix {s1 : ByteArray} {s2 : ByteArray} {h : AW} {Q : Value → AW → Prop} (H : bC (decide ((↑(ByteArray.size s1) : Int) ≥ (↑(ByteArray.size s2) : Int))) (oB (natBnd
  (↑(ByteArray.size s2) : Int) (ByteArray.size s1)) fun m3 => Q (Value.bool (bEq (bSub s1 0 m3) s2)) h) (Q (Value.bool false) h)) : EvQ P f_stringslite_HasPrefix [Value.string s1, Value.string s2] h
  Q := fn_ok (n := 400) (ann := annOf []) (Eq.mp (by kernel_rfl) H)
theorem r_stringslite_IndexByte {s1 : ByteArray} {n2 : Int} {h : AW} {Q : Value → AW → Prop} (H : EvQ P f_bytealg_IndexByteString [Value.string s1, Value.int IntKind.u8 n2] h fun v3 h4 => vInt IntKind.i64 v3 fun n5
  => Q (Value.int IntKind.i64 n5) h4) : EvQ P f_stringslite_IndexByte [Value.string s1, Value.int IntKind.u8 n2] h Q := fn_ok (n := 400) (ann := annOf []) (Eq.mp (by kernel_rfl) H)
end Go.Proofs.YtgdkekdedgkglaaDoor
end

section
/- strings.Builder; words as text. -/
namespace Go.Proofs.YtgdkekdedgkglaaDoor
open Go.Abs Go.Abs.Fo
set_option maxRecDepth 100000
attribute [local irreducible] unitAt EvQ
variable {h : AW} {μ : Paint} {ρ0 ρ : Store} {Q : Value → AW → Prop} {ns : List Nat} {rs : List Res}
theorem same_fn : sameFn P f_abi_NoEscape = true := by kernel_rfl
theorem no_body : bodyOf P f_abi_NoEscape = none := by kernel_rfl
theorem noEscape_ok {p : Option Addr} (hq : Q (.pointer p) h) : EvQ P f_abi_NoEscape [.pointer p] h Q := by
  unfold EvQ
  refine ⟨_, _, ⟨1, ?_⟩, hq⟩
  unfold callF
  rw [no_body]
  simp only
  unfold sameV
  simp only
  rw [same_fn]
/-- A builder's pieces. -/
def bldR (p : Nat) (u : Option Addr) (b : Option Nat) (cap : Nat) (l : List UInt8) (rs : List Res) : List Res :=
  .sl (basA b) cap 1 (ofBytes l) :: tyR b ty_uint8 :: .var p [.pointer u, .slice (basA b) l.length cap] :: .ty p ty_strings_Builder :: rs
theorem eq_pp (p : Nat) : eqV P ty_p_strings_Builder false (.pointer (some ⟨p, 0, none⟩)) (.pointer (some ⟨p, 0, none⟩)) = some true := by
  unfold eqV
  rw [ti_ty_p_strings_Builder]
  simp only
  rw [ti_ty_strings_Builder, Nat.beq_refl]
  rfl
theorem cc_ok (O : Own h μ ρ) {p cap : Nat} {u : Option Addr} {b : Option Nat} {l : List UInt8} (W : Pcs ρ0 ρ ns (bldR p u b cap l rs)) (hu : u = none ∨ u = some ⟨p, 0, none⟩)
    (hq : ∀ h' μ' ρ', Own h' μ' ρ' → Pcs ρ0 ρ' ns (bldR p (some ⟨p, 0, none⟩) b cap l rs) → Q (.tuple ⟨[]⟩) h') : EvQ P f_p_strings_Builder_copyCheck [.pointer (some ⟨p, 0, none⟩)] h Q := by
  refine r_p_strings_Builder_copyCheck ?_
  simp only [aP_some]
  refine w_rd O W 2 (j := 0) rfl rfl ?_
  rcases hu with rfl | rfl
  · simp only [oB_some, bC_true, bC_false, vInt_int, vBool_bool, vStr_string, vPtr_pointer, vSl_slice, vMap_map, vFun_func, vAgg_agg, vTup_tuple, vIfc_nil, vIfc_iface, lC_cons, lN_nil, aP_some, shO_none, shO_some, Option.isNone_none, Option.isNone_some, Bool.not_true, Bool.not_false]
    refine w_toU O W 2 rfl (Nat.zero_lt_succ _) ti_ty_p_strings_Builder ti_ty_unsafe_Pointer ti_ty_strings_Builder rfl ?_
    simp only [oB_some, bC_true, bC_false, vInt_int, vBool_bool, vStr_string, vPtr_pointer, vSl_slice, vMap_map, vFun_func, vAgg_agg, vTup_tuple, vIfc_nil, vIfc_iface, lC_cons, lN_nil, aP_some, shO_none, shO_some, Option.isNone_none, Option.isNone_some, Bool.not_true, Bool.not_false]
    refine noEscape_ok ?_
    simp only [oB_some, bC_true, bC_false, vInt_int, vBool_bool, vStr_string, vPtr_pointer, vSl_slice, vMap_map, vFun_func, vAgg_agg, vTup_tuple, vIfc_nil, vIfc_iface, lC_cons, lN_nil, aP_some, shO_none, shO_some, Option.isNone_none, Option.isNone_some, Bool.not_true, Bool.not_false]
    refine w_fromU O W 2 3 rfl rfl ti_ty_unsafe_Pointer ti_ty_p_strings_Builder ti_ty_strings_Builder rfl (Nat.le_refl 2) ?_
    simp only [oB_some, bC_true, bC_false, vInt_int, vBool_bool, vStr_string, vPtr_pointer, vSl_slice, vMap_map, vFun_func, vAgg_agg, vTup_tuple, vIfc_nil, vIfc_iface, lC_cons, lN_nil, aP_some, shO_none, shO_some, Option.isNone_none, Option.isNone_some, Bool.not_true, Bool.not_false]
    refine w_wr O W 2 (j := 0) rfl (Nat.le_of_ble_eq_true rfl) rfl fun h' ρ' O' W' => ?_
    exact hq _ _ _ O' W'
  · simp only [oB_some, bC_true, bC_false, vInt_int, vBool_bool, vStr_string, vPtr_pointer, vSl_slice, vMap_map, vFun_func, vAgg_agg, vTup_tuple, vIfc_nil, vIfc_iface, lC_cons, lN_nil, aP_some, shO_none, shO_some, Option.isNone_none, Option.isNone_some, Bool.not_true, Bool.not_false]
    refine w_rd O W 2 (j := 0) rfl rfl ?_
    simp only [oB_some, bC_true, bC_false, vInt_int, vBool_bool, vStr_string, vPtr_pointer, vSl_slice, vMap_map, vFun_func, vAgg_agg, vTup_tuple, vIfc_nil, vIfc_iface, lC_cons, lN_nil, aP_some, shO_none, shO_some, Option.isNone_none, Option.isNone_some, Bool.not_true, Bool.not_false]
    rw [eq_pp]
    simp only [oB_some, bC_true, bC_false, vInt_int, vBool_bool, vStr_string, vPtr_pointer, vSl_slice, vMap_map, vFun_func, vAgg_agg, vTup_tuple, vIfc_nil, vIfc_iface, lC_cons, lN_nil, aP_some, shO_none, shO_some, Option.isNone_none, Option.isNone_some, Bool.not_true, Bool.not_false]
    exact hq _ _ _ O W
theorem ofB_snoc (l : List UInt8) (c : UInt8) : ofBytes l ++ [.int .u8 (c.toNat : Int)] = ofBytes (l ++ [c]) := by
  unfold ofBytes; rw [List.map_append]; rfl
theorem ofB_app (l m : List UInt8) : ofBytes l ++ ofBytes m = ofBytes (l ++ m) := by
  unfold ofBytes; rw [List.map_append]
theorem ofB_len (l : List UInt8) : (ofBytes l).length = l.length := by unfold ofBytes; rw [List.length_map]
/-- A byte is written. -/
theorem wb_ok (O : Own h μ ρ) {p cap : Nat} {u : Option Addr} {b : Option Nat} {l : List UInt8} (W : Pcs ρ0 ρ ns (bldR p u b cap l rs)) (hu : u = none ∨ u = some ⟨p, 0, none⟩) (c : UInt8) {z : Int} (hz : z = (c.toNat : Int)) (hl : l.length ≤ 1000000000)
    (hq : ∀ h' μ' ρ' b' cap', Own h' μ' ρ' → Pcs ρ0 ρ' ns (bldR p (some ⟨p, 0, none⟩) b' cap' (l ++ [c]) rs) → Q .nilIface h') : EvQ P f_p_strings_Builder_WriteByte [.pointer (some ⟨p, 0, none⟩), .int .u8 z] h Q := by
  subst hz
  refine r_p_strings_Builder_WriteByte ?_
  refine cc_ok O W hu fun h1 μ1 ρ1 O1 W1 => ?_
  simp only [aP_some]
  refine w_rd O1 W1 2 (j := 1) rfl rfl ?_
  simp only [oB_some, bC_true, bC_false, vInt_int, vBool_bool, vStr_string, vPtr_pointer, vSl_slice, vMap_map, vFun_func, vAgg_agg, vTup_tuple, vIfc_nil, vIfc_iface, lC_cons, lN_nil, aP_some, shO_none, shO_some, Option.isNone_none, Option.isNone_some, Bool.not_true, Bool.not_false]
  obtain ⟨μ2, ρ2, c2, O2, W2, hc2⟩ := w_block O1 W1 [.int .u8 (c.toNat : Int)] (n := 1) (sz := 1) rfl rfl
  refine w_appT (P := P) (m := 1) O2 W2 1 2 (by decide) ti_ty_sl_uint8 ti_ty_uint8 rfl rfl (ofB_len l).symm (w_sl O2 W2 0 rfl) rfl rfl (by omega) (by omega) fun b' cap' h3 μ3 ρ3 O3 W3 => ?_
  simp only [oB_some, bC_true, bC_false, vInt_int, vBool_bool, vStr_string, vPtr_pointer, vSl_slice, vMap_map, vFun_func, vAgg_agg, vTup_tuple, vIfc_nil, vIfc_iface, lC_cons, lN_nil, aP_some, shO_none, shO_some, Option.isNone_none, Option.isNone_some, Bool.not_true, Bool.not_false]
  have W4 := W3.tail hc2
  refine w_wr O3 W4 2 (j := 1) rfl (Nat.le_of_ble_eq_true rfl) rfl fun h5 ρ5 O5 W5 => ?_
  refine hq _ _ _ b' cap' O5 (W5.eq ?_)
  simp only [bldR, ← ofB_snoc, List.length_append, List.length_cons, List.length_nil]
  rfl
/-- A string is written. -/
theorem ws_ok (O : Own h μ ρ) {p cap : Nat} {u : Option Addr} {b : Option Nat} {l : List UInt8} (W : Pcs ρ0 ρ ns (bldR p u b cap l rs)) (hu : u = none ∨ u = some ⟨p, 0, none⟩) (s : Str) (hl : l.length ≤ 1000000000) (hs : s.size ≤ 1000000000)
    (hq : ∀ h' μ' ρ' b' cap', Own h' μ' ρ' → Pcs ρ0 ρ' ns (bldR p (some ⟨p, 0, none⟩) b' cap' (l ++ s.data.toList) rs) → Q (.tuple ⟨[.int .i64 (s.size : Int), .nilIface]⟩) h') : EvQ P f_p_strings_Builder_WriteString [.pointer (some ⟨p, 0, none⟩), .string s] h Q := by
  refine r_p_strings_Builder_WriteString ?_
  refine cc_ok O W hu fun h1 μ1 ρ1 O1 W1 => ?_
  simp only [aP_some]
  refine w_rd O1 W1 2 (j := 1) rfl rfl ?_
  simp only [oB_some, bC_true, bC_false, vInt_int, vBool_bool, vStr_string, vPtr_pointer, vSl_slice, vMap_map, vFun_func, vAgg_agg, vTup_tuple, vIfc_nil, vIfc_iface, lC_cons, lN_nil, aP_some, shO_none, shO_some, Option.isNone_none, Option.isNone_some, Bool.not_true, Bool.not_false]
  refine w_appS (P := P) O1 W1 0 1 (by decide) ti_ty_sl_uint8 ti_ty_uint8 ti_ty_string rfl rfl rfl (ofB_len l).symm (by omega) (by omega) fun b' cap' h3 μ3 ρ3 O3 W3 => ?_
  simp only [oB_some, bC_true, bC_false, vInt_int, vBool_bool, vStr_string, vPtr_pointer, vSl_slice, vMap_map, vFun_func, vAgg_agg, vTup_tuple, vIfc_nil, vIfc_iface, lC_cons, lN_nil, aP_some, shO_none, shO_some, Option.isNone_none, Option.isNone_some, Bool.not_true, Bool.not_false]
  refine w_wr O3 W3 2 (j := 1) rfl (Nat.le_of_ble_eq_true rfl) rfl fun h5 ρ5 O5 W5 => ?_
  refine hq _ _ _ b' cap' O5 (W5.eq ?_)
  have hsz : s.size = s.data.toList.length := rfl
  simp only [bldR, ← ofB_app, List.length_append, hsz]
  rfl
/-- Its bytes are taken for a string. -/
theorem bs_ok (O : Own h μ ρ) {p cap n1 n2 : Nat} {u : Option Addr} {b : Option Nat} {l : List UInt8} (W : Pcs ρ0 ρ (n1 :: n2 :: ns) (bldR p u b cap l rs)) (h1 : ρ0 n1 = none) (h2 : ρ0 n2 = none) (hl : l.length ≤ 1000000000) (hb : l = [] → b = none)
    (hq : ∀ h' ρ', Own h' μ ρ' → Pcs ρ0 ρ' ns (.var p [.pointer u, .slice (basA b) l.length cap] :: .ty p ty_strings_Builder :: rs) → Q (.string ⟨⟨l⟩⟩) h') : EvQ P f_p_strings_Builder_String [.pointer (some ⟨p, 0, none⟩)] h Q := by
  refine r_p_strings_Builder_String ?_
  simp only [aP_some]
  refine w_rd O W 2 (j := 1) rfl rfl ?_
  simp only [oB_some, bC_true, bC_false, vInt_int, vBool_bool, vStr_string, vPtr_pointer, vSl_slice, vMap_map, vFun_func, vAgg_agg, vTup_tuple, vIfc_nil, vIfc_iface, lC_cons, lN_nil, aP_some, shO_none, shO_some, Option.isNone_none, Option.isNone_some, Bool.not_true, Bool.not_false]
  by_cases h0 : l = []
  · have hb' := hb h0
    subst hb'
    subst h0
    simp only [basA]
    refine oB_bind (v := .pointer none) rfl ?_
    simp only [oB_some, bC_true, bC_false, vInt_int, vBool_bool, vStr_string, vPtr_pointer, vSl_slice, vMap_map, vFun_func, vAgg_agg, vTup_tuple, vIfc_nil, vIfc_iface, lC_cons, lN_nil, aP_some, shO_none, shO_some, Option.isNone_none, Option.isNone_some, Bool.not_true, Bool.not_false]
    refine w_rd O W 2 (j := 1) rfl rfl ?_
    simp only [oB_some, bC_true, bC_false, vInt_int, vBool_bool, vStr_string, vPtr_pointer, vSl_slice, vMap_map, vFun_func, vAgg_agg, vTup_tuple, vIfc_nil, vIfc_iface, lC_cons, lN_nil, aP_some, shO_none, shO_some, Option.isNone_none, Option.isNone_some, Bool.not_true, Bool.not_false]
    exact hq _ _ O ((W.tail h1).tail h2)
  · have hlen : 0 < l.length := List.length_pos_iff.2 h0
    have hcap : l.length ≤ cap := by have := w_cap O W 0 rfl; rw [ofB_len] at this; omega
    cases b with
    | none =>
      have M : OM h μ n1 none cap 1 (ofBytes l) := O.holds _ _ (W.at_ 0 _ _ rfl rfl)
      rcases M.mem with ⟨_, e⟩ | ⟨_, _, e, _⟩
      · omega
      · cases e
    | some i =>
      have hs : sdataB [.slice (some ⟨i, 0, none⟩) l.length cap] = some (.pointer (some ⟨i, 0, none⟩)) := by
        unfold sdataB
        simp only
        rw [show Nat.beq cap 0 = false from by rw [← Bool.not_eq_true, Nat.beq_eq]; omega]
      refine oB_bind hs ?_
      simp only [oB_some, bC_true, bC_false, vInt_int, vBool_bool, vStr_string, vPtr_pointer, vSl_slice, vMap_map, vFun_func, vAgg_agg, vTup_tuple, vIfc_nil, vIfc_iface, lC_cons, lN_nil, aP_some, shO_none, shO_some, Option.isNone_none, Option.isNone_some, Bool.not_true, Bool.not_false]
      refine w_rd O W 2 (j := 1) rfl rfl ?_
      simp only [oB_some, bC_true, bC_false, vInt_int, vBool_bool, vStr_string, vPtr_pointer, vSl_slice, vMap_map, vFun_func, vAgg_agg, vTup_tuple, vIfc_nil, vIfc_iface, lC_cons, lN_nil, aP_some, shO_none, shO_some, Option.isNone_none, Option.isNone_some, Bool.not_true, Bool.not_false]
      refine w_ustr (P := P) (bs := l) O W h1 h2 ti_ty_p_uint8 ti_ty_uint8 rfl rfl h0 (by omega) fun h3 ρ3 O3 W3 => ?_
      simp only [oB_some, bC_true, bC_false, vInt_int, vBool_bool, vStr_string, vPtr_pointer, vSl_slice, vMap_map, vFun_func, vAgg_agg, vTup_tuple, vIfc_nil, vIfc_iface, lC_cons, lN_nil, aP_some, shO_none, shO_some, Option.isNone_none, Option.isNone_some, Bool.not_true, Bool.not_false]
      exact hq _ _ O3 W3
/-- May a byte stand without quotes: as made, and as said. -/
theorem bare_ok {n : Nat} (hq : Q (.bool (bareN n)) h) : EvQ P f_lex_bare [.int .u8 (n : Int)] h Q := by
  refine r_lex_bare ?_
  have c : ∀ k : Nat, ((n : Int) == (k : Int)) = (n == k) := fun k => by
    rw [Bool.eq_iff_iff]; simp only [beq_iff_eq]; omega
  have c34 : ((n : Int) == 34) = (n == 34) := c 34
  have c35 : ((n : Int) == 35) = (n == 35) := c 35
  have c58 : ((n : Int) == 58) = (n == 58) := c 58
  have c61 : ((n : Int) == 61) = (n == 61) := c 61
  have c92 : ((n : Int) == 92) = (n == 92) := c 92
  unfold bareN at hq
  refine bC_iff (fun e => ?_) (fun e1 => ?_)
  · rw [c34] at e; rw [e] at hq; exact hq
  rw [c34] at e1
  refine bC_iff (fun e => ?_) (fun e2 => ?_)
  · rw [c35] at e; rw [e1, e] at hq; exact hq
  rw [c35] at e2
  refine bC_iff (fun e => ?_) (fun e3 => ?_)
  · rw [c58] at e; rw [e1, e2, e] at hq; exact hq
  rw [c58] at e3
  refine bC_iff (fun e => ?_) (fun e4 => ?_)
  · rw [c61] at e; rw [e1, e2, e3, e] at hq; exact hq
  rw [c61] at e4
  refine bC_iff (fun e => ?_) (fun e5 => ?_)
  · rw [c92] at e; rw [e1, e2, e3, e4, e] at hq; exact hq
  rw [c92] at e5
  rw [e1, e2, e3, e4, e5] at hq
  refine bC_iff (fun e => ?_) (fun e => ?_)
  · have e := of_decide_eq_true e
    rw [decide_eq_true (show 32 < n by omega)] at hq
    rw [show decide ((n : Int) < 127) = decide (n < 127) from by rw [Bool.eq_iff_iff]; simp only [decide_eq_true_eq]; omega]
    exact hq
  · have e := of_decide_eq_false e
    rw [decide_eq_false (show ¬ 32 < n by omega)] at hq
    exact hq
theorem bAt_of {s : Str} {k : Nat} (hk : k < s.size) : bAt s k = some ((s.data.toList[k]'hk).toNat : Int) := by
  unfold bAt
  rw [Array.getElem?_eq_getElem (by exact hk)]
  simp
/-- A word that may stand without quotes. -/
theorem all_at {l : List UInt8} {k : Nat} (hk : k < l.length) (hp : ∀ j (hj : j < l.length), j < k → bareN (l[j]).toNat = true) : (bareN (l[k]).toNat = false → plainL l = false) ∧ (bareN (l[k]).toNat = true → ∀ j (hj : j < l.length), j < k + 1 → bareN (l[j]).toNat = true) := by
  refine ⟨fun h => ?_, fun h j hj hlt => ?_⟩
  · unfold plainL
    rw [Bool.and_eq_false_iff]
    left
    rw [← Bool.not_eq_true, List.all_eq_true]
    intro x
    have := x _ (List.getElem_mem hk)
    rw [h] at this
    cases this
  · by_cases e : j = k
    · subst e; exact h
    · exact hp j hj (by omega)
theorem all_end {s : Str} (hp : ∀ j (hj : j < s.data.toList.length), j < s.data.toList.length → bareN (s.data.toList[j]).toNat = true) : plainL s.data.toList = !bEq s ⟨#[]⟩ := by
  unfold plainL
  have h1 : (s.data.toList.all fun c => bareN c.toNat) = true := by
    rw [List.all_eq_true]
    intro c hc
    obtain ⟨j, hj, e⟩ := List.getElem_of_mem hc
    rw [← e]
    exact hp j hj hj
  rw [h1, Bool.true_and]
  congr 1
  rw [Bool.eq_iff_iff, bEq_iff, List.isEmpty_iff]
  constructor
  · intro h; exact ByteArray.ext (Array.toList_inj.1 h)
  · rintro rfl; rfl
theorem plain_loop {s : Str} (hs : s.size ≤ 1000000000) (hq : Q (.bool (plainL s.data.toList)) h) : ∀ (d k : Nat), s.size - k = d → k ≤ s.size → (∀ j (hj : j < s.data.toList.length), j < k → bareN (s.data.toList[j]).toNat = true) →
    unitAt P f_lex_Plain 2 [0, 5, 6] [.string s, .int .i64 (s.size : Int), .int .i64 (k : Int)] h Q := by
  have hlen : s.data.toList.length = s.size := rfl
  intro d
  induction d with
  | zero =>
    intro k hd hk hp
    refine r_lex_Plain_2 ?_
    rw [geI (by omega)]
    simp only [oB_some, bC_true, bC_false, vInt_int, vBool_bool, vStr_string, vPtr_pointer, vSl_slice, vMap_map, vFun_func, vAgg_agg, vTup_tuple, vIfc_nil, vIfc_iface, lC_cons, lN_nil, aP_some, shO_none, shO_some, Option.isNone_none, Option.isNone_some, Bool.not_true, Bool.not_false]
    rw [all_end fun j hj _ => hp j hj (by omega)] at hq
    exact hq
  | succ d ih =>
    intro k hd hk hp
    have hlt : k < s.size := by omega
    refine r_lex_Plain_2 ?_
    rw [ltI hlt, natIdx_eq hlt]
    simp only [oB_some, bC_true, bC_false, vInt_int, vBool_bool, vStr_string, vPtr_pointer, vSl_slice, vMap_map, vFun_func, vAgg_agg, vTup_tuple, vIfc_nil, vIfc_iface, lC_cons, lN_nil, aP_some, shO_none, shO_some, Option.isNone_none, Option.isNone_some, Bool.not_true, Bool.not_false]
    refine oB_bind (bAt_of hlt) ?_
    refine bare_ok ?_
    simp only [oB_some, bC_true, bC_false, vInt_int, vBool_bool, vStr_string, vPtr_pointer, vSl_slice, vMap_map, vFun_func, vAgg_agg, vTup_tuple, vIfc_nil, vIfc_iface, lC_cons, lN_nil, aP_some, shO_none, shO_some, Option.isNone_none, Option.isNone_some, Bool.not_true, Bool.not_false]
    obtain ⟨a1, a2⟩ := all_at (l := s.data.toList) hlt hp
    refine bC_iff (fun e => ?_) (fun e => ?_)
    · rw [a1 (by simpa using e)] at hq
      exact hq
    · rw [wrapS (by omega)]
      exact ih (k + 1) (by omega) (by omega) (a2 (by simpa using e))
end Go.Proofs.YtgdkekdedgkglaaDoor
end

section
/- Words as text, quoted or not: as made, and as said. -/
namespace Go.Proofs.YtgdkekdedgkglaaDoor
open Go.Abs Go.Abs.Fo
set_option maxRecDepth 100000
attribute [local irreducible] unitAt EvQ
variable {h : AW} {μ : Paint} {ρ0 ρ : Store} {Q : Value → AW → Prop} {ns : List Nat} {rs : List Res}
theorem quote_le (l : List UInt8) : (quoteL l).length ≤ 2 * l.length + 2 := by
  have := flat_len l
  simp only [quoteL, List.length_cons, List.length_append, List.length_nil]
  omega
theorem quote_4 {s : Str} (hs : s.size ≤ 100000000) {p n1 n2 n3 n4 : Nat} (h1 : ρ n1 = none) (h2 : ρ n2 = none) (h3 : ρ n3 = none) (h4 : ρ n4 = none) (hq : RdQ Q ρ (.string ⟨⟨quoteL s.data.toList⟩⟩)) :
    ∀ (d k : Nat) {h : AW} {μ : Paint} {ρ' : Store} {acc : List UInt8} {b : Option Nat} {cap : Nat}, s.size - k = d → k ≤ s.size → Own h μ ρ' → Pcs ρ ρ' [n1, n2, n3, n4] (bldR p (some ⟨p, 0, none⟩) b cap acc []) → acc ≠ [] → acc ++ ((s.data.toList.drop k).flatMap escL ++ [34]) = quoteL s.data.toList →
      unitAt P f_lex_Quote 4 [0, 3, 8, 9] [.string s, .pointer (some ⟨p, 0, none⟩), .int .i64 (s.size : Int), .int .i64 (k : Int)] h Q := by
  have hlen : s.data.toList.length = s.size := rfl
  have hql := quote_le s.data.toList
  intro d
  induction d with
  | zero =>
    intro k h μ ρ' acc b cap hd hk O W h0 ha
    have hacc : acc.length ≤ 1000000000 := by
      have := congrArg List.length ha
      simp only [List.length_append] at this
      omega
    rw [List.drop_eq_nil_of_le (by omega), List.flatMap_nil, List.nil_append] at ha
    refine r_lex_Quote_4 ?_
    rw [geI (by omega)]
    simp only [oB_some, bC_true, bC_false, vInt_int, vBool_bool, vStr_string, vPtr_pointer, vSl_slice, vMap_map, vFun_func, vAgg_agg, vTup_tuple, vIfc_nil, vIfc_iface, lC_cons, lN_nil, aP_some, shO_none, shO_some, Option.isNone_none, Option.isNone_some, Bool.not_true, Bool.not_false]
    refine wb_ok O W (.inr rfl) 34 rfl hacc fun h5 μ5 ρ5 b5 cap5 O5 W5 => ?_
    simp only [oB_some, bC_true, bC_false, vInt_int, vBool_bool, vStr_string, vPtr_pointer, vSl_slice, vMap_map, vFun_func, vAgg_agg, vTup_tuple, vIfc_nil, vIfc_iface, lC_cons, lN_nil, aP_some, shO_none, shO_some, Option.isNone_none, Option.isNone_some, Bool.not_true, Bool.not_false]
    rw [ha] at W5
    refine bs_ok O5 W5 h1 h2 (by omega) (fun e => by rw [← ha] at e; simp at e) fun h6 ρ6 O6 W6 => ?_
    simp only [oB_some, bC_true, bC_false, vInt_int, vBool_bool, vStr_string, vPtr_pointer, vSl_slice, vMap_map, vFun_func, vAgg_agg, vTup_tuple, vIfc_nil, vIfc_iface, lC_cons, lN_nil, aP_some, shO_none, shO_some, Option.isNone_none, Option.isNone_some, Bool.not_true, Bool.not_false]
    exact hq _ _ _ O6 (W6.fra0 fun c hc => by simp at hc; rcases hc with rfl | rfl <;> assumption)
  | succ d ih =>
    intro k h μ ρ' acc b cap hd hk O W h0 ha
    have hlt : k < s.size := by omega
    have hacc : acc.length ≤ 1000000000 := by
      have := congrArg List.length ha
      simp only [List.length_append] at this
      omega
    rw [List.drop_eq_getElem_cons hlt, List.flatMap_cons] at ha
    refine r_lex_Quote_4 ?_
    rw [ltI hlt, natIdx_eq hlt]
    simp only [oB_some, bC_true, bC_false, vInt_int, vBool_bool, vStr_string, vPtr_pointer, vSl_slice, vMap_map, vFun_func, vAgg_agg, vTup_tuple, vIfc_nil, vIfc_iface, lC_cons, lN_nil, aP_some, shO_none, shO_some, Option.isNone_none, Option.isNone_some, Bool.not_true, Bool.not_false]
    refine oB_bind (bAt_of hlt) ?_
    generalize hc : s.data.toList[k]'hlt = c at ha ⊢
    have cc : ∀ m : UInt8, ((c.toNat : Int) == (m.toNat : Int)) = decide (c = m) := fun m => by
      rw [Bool.eq_iff_iff, beq_iff_eq, decide_eq_true_eq, ← UInt8.toNat_inj]; omega
    have c10 : ((c.toNat : Int) == 10) = decide (c = 10) := cc 10
    have c9 : ((c.toNat : Int) == 9) = decide (c = 9) := cc 9
    have c34 : ((c.toNat : Int) == 34) = decide (c = 34) := cc 34
    have c92 : ((c.toNat : Int) == 92) = decide (c = 92) := cc 92
    have next : ∀ {h : AW} {μ : Paint} {ρ' : Store} {e : List UInt8} {b : Option Nat} {cap : Nat}, Own h μ ρ' → Pcs ρ ρ' [n1, n2, n3, n4] (bldR p (some ⟨p, 0, none⟩) b cap (acc ++ e) []) → escL c = e →
        unitAt P f_lex_Quote 4 [0, 3, 8, 9] [.string s, .pointer (some ⟨p, 0, none⟩), .int .i64 (s.size : Int), .int .i64 (IntKind.wrap .i64 ((k : Int) + 1))] h Q := fun {h μ ρ' e b cap} O W he => by
      rw [wrapS (by omega)]
      refine ih (k + 1) (by omega) (by omega) O W (by simp [h0]) ?_
      rw [← he, List.append_assoc, ← List.append_assoc (escL c)]
      exact ha
    have plain : ∀ {h : AW} {μ : Paint} {ρ' : Store} {e : List UInt8} {b : Option Nat} {cap : Nat}, Own h μ ρ' → Pcs ρ ρ' [n1, n2, n3, n4] (bldR p (some ⟨p, 0, none⟩) b cap (acc ++ e) []) → escL c = e ++ [c] → e.length ≤ 1 →
        unitAt P f_lex_Quote 15 [0, 3, 5, 8, 9] [.string s, .pointer (some ⟨p, 0, none⟩), .int .u8 (c.toNat : Int), .int .i64 (s.size : Int), .int .i64 (k : Int)] h Q := fun {h μ ρ' e b cap} O W he hl => by
      refine r_lex_Quote_15 ?_
      refine wb_ok O W (.inr rfl) c rfl ?_ fun h5 μ5 ρ5 b5 cap5 O5 W5 => ?_
      · have := congrArg List.length ha
        simp only [List.length_append] at this ⊢
        omega
      simp only [oB_some, bC_true, bC_false, vInt_int, vBool_bool, vStr_string, vPtr_pointer, vSl_slice, vMap_map, vFun_func, vAgg_agg, vTup_tuple, vIfc_nil, vIfc_iface, lC_cons, lN_nil, aP_some, shO_none, shO_some, Option.isNone_none, Option.isNone_some, Bool.not_true, Bool.not_false]
      rw [List.append_assoc] at W5
      exact next O5 W5 he
    refine bC_iff (fun e => ?_) (fun e1 => ?_)
    · rw [c10, decide_eq_true_eq] at e
      refine ws_ok O W (.inr rfl) ⟨#[92, 110]⟩ hacc (by decide) fun h5 μ5 ρ5 b5 cap5 O5 W5 => ?_
      simp only [oB_some, bC_true, bC_false, vInt_int, vBool_bool, vStr_string, vPtr_pointer, vSl_slice, vMap_map, vFun_func, vAgg_agg, vTup_tuple, vIfc_nil, vIfc_iface, lC_cons, lN_nil, aP_some, shO_none, shO_some, Option.isNone_none, Option.isNone_some, Bool.not_true, Bool.not_false]
      exact next O5 W5 (by rw [e]; rfl)
    rw [c10, decide_eq_false_iff_not] at e1
    refine bC_iff (fun e => ?_) (fun e2 => ?_)
    · rw [c9, decide_eq_true_eq] at e
      refine ws_ok O W (.inr rfl) ⟨#[92, 116]⟩ hacc (by decide) fun h5 μ5 ρ5 b5 cap5 O5 W5 => ?_
      simp only [oB_some, bC_true, bC_false, vInt_int, vBool_bool, vStr_string, vPtr_pointer, vSl_slice, vMap_map, vFun_func, vAgg_agg, vTup_tuple, vIfc_nil, vIfc_iface, lC_cons, lN_nil, aP_some, shO_none, shO_some, Option.isNone_none, Option.isNone_some, Bool.not_true, Bool.not_false]
      exact next O5 W5 (by rw [e]; rfl)
    rw [c9, decide_eq_false_iff_not] at e2
    have u14 : escL c = [92] ++ [c] → unitAt P f_lex_Quote 14 [0, 3, 5, 8, 9] [.string s, .pointer (some ⟨p, 0, none⟩), .int .u8 (c.toNat : Int), .int .i64 (s.size : Int), .int .i64 (k : Int)] h Q := fun he => by
      refine r_lex_Quote_14 ?_
      refine wb_ok O W (.inr rfl) 92 rfl hacc fun h5 μ5 ρ5 b5 cap5 O5 W5 => ?_
      simp only [oB_some, bC_true, bC_false, vInt_int, vBool_bool, vStr_string, vPtr_pointer, vSl_slice, vMap_map, vFun_func, vAgg_agg, vTup_tuple, vIfc_nil, vIfc_iface, lC_cons, lN_nil, aP_some, shO_none, shO_some, Option.isNone_none, Option.isNone_some, Bool.not_true, Bool.not_false]
      exact plain O5 W5 he (by simp)
    refine bC_iff (fun e => ?_) (fun e3 => ?_)
    · rw [c34, decide_eq_true_eq] at e
      exact u14 (by rw [e]; rfl)
    rw [c34, decide_eq_false_iff_not] at e3
    refine bC_iff (fun e => ?_) (fun e4 => ?_)
    · rw [c92, decide_eq_true_eq] at e
      exact u14 (by rw [e]; rfl)
    rw [c92, decide_eq_false_iff_not] at e4
    have W' : Pcs ρ ρ' [n1, n2, n3, n4] (bldR p (some ⟨p, 0, none⟩) b cap (acc ++ []) []) := by rw [List.append_nil]; exact W
    exact plain O W' (by unfold escL; rw [if_neg e1, if_neg e2, if_neg e3, if_neg e4]; rfl) (by simp)
/-- A new builder. -/
theorem new_bld (O : Own h μ ρ) (W : Pcs ρ0 ρ ns rs) : ∃ μ' ρ' n1 n2 n3 n4, Own ((h.addVar [.pointer none, .slice none 0 0]).tag h.next ty_strings_Builder) μ' ρ' ∧ Pcs ρ0 ρ' (n1 :: n2 :: n3 :: n4 :: ns) (bldR h.next none none 0 [] rs) ∧ ρ0 n1 = none ∧ ρ0 n2 = none ∧ ρ0 n3 = none ∧ ρ0 n4 = none := by
  obtain ⟨μ1, ρ1, c, d, O1, W1, hc, hd⟩ := w_newT O W [.pointer none, .slice none 0 0] ty_strings_Builder
  have W1 := W1.swap2
  obtain ⟨ρ2, e, O2, W2, he⟩ := w_many O1 W1
  obtain ⟨ρ3, f, O3, W3, hf⟩ := w_nil O2 W2 1
  exact ⟨_, _, f, e, c, d, O3, W3, hf, he, hc, hd⟩
theorem quote_ok (O : Own h μ ρ) {s : Str} (hs : s.size ≤ 100000000) (hq : RdQ Q ρ (.string ⟨⟨quoteL s.data.toList⟩⟩)) : EvQ P f_lex_Quote [.string s] h Q := by
  refine r_lex_Quote ?_
  obtain ⟨μ1, ρ1, n1, n2, n3, n4, O1, W1, h1, h2, h3, h4⟩ := new_bld O p00
  refine wb_ok O1 W1 (.inl rfl) 34 rfl (by simp) fun h5 μ5 ρ5 b5 cap5 O5 W5 => ?_
  simp only [oB_some, bC_true, bC_false, vInt_int, vBool_bool, vStr_string, vPtr_pointer, vSl_slice, vMap_map, vFun_func, vAgg_agg, vTup_tuple, vIfc_nil, vIfc_iface, lC_cons, lN_nil, aP_some, shO_none, shO_some, Option.isNone_none, Option.isNone_some, Bool.not_true, Bool.not_false]
  exact quote_4 hs h1 h2 h3 h4 hq _ 0 rfl (Nat.zero_le _) O5 W5 (by simp) rfl
theorem show_ok (O : Own h μ ρ) {s : Str} (hs : s.size ≤ 100000000) (hq : RdQ Q ρ (.string ⟨⟨showL s.data.toList⟩⟩)) : EvQ P f_lex_Show [.string s] h Q := by
  refine r_lex_Show (r_lex_Plain (plain_loop (by omega) ?_ _ 0 rfl (Nat.zero_le _) fun j _ hj => by omega))
  simp only [oB_some, bC_true, bC_false, vInt_int, vBool_bool, vStr_string, vPtr_pointer, vSl_slice, vMap_map, vFun_func, vAgg_agg, vTup_tuple, vIfc_nil, vIfc_iface, lC_cons, lN_nil, aP_some, shO_none, shO_some, Option.isNone_none, Option.isNone_some, Bool.not_true, Bool.not_false]
  unfold showL at hq
  refine bC_iff (fun e => ?_) (fun e => ?_)
  · rw [if_pos e] at hq
    exact hq.now O
  · rw [if_neg (by rw [e]; decide)] at hq
    refine quote_ok O hs fun h1 μ1 ρ1 O1 F1 => ?_
    simp only [oB_some, bC_true, bC_false, vInt_int, vBool_bool, vStr_string, vPtr_pointer, vSl_slice, vMap_map, vFun_func, vAgg_agg, vTup_tuple, vIfc_nil, vIfc_iface, lC_cons, lN_nil, aP_some, shO_none, shO_some, Option.isNone_none, Option.isNone_some, Bool.not_true, Bool.not_false]
    exact hq _ _ _ O1 F1
end Go.Proofs.YtgdkekdedgkglaaDoor
end

section
/- The reader of texts: a byte looked at, a byte gone on, a quoted word. -/
namespace Go.Proofs.YtgdkekdedgkglaaDoor
open Go.Abs Go.Abs.Fo
set_option maxRecDepth 100000
attribute [local irreducible] unitAt EvQ
variable {h : AW} {μ : Paint} {ρ0 ρ : Store} {Q : Value → AW → Prop} {ns : List Nat} {rs : List Res}
theorem idx_fn : idxFn P f_bytealg_IndexByteString = true := by kernel_rfl
theorem idx_body : bodyOf P f_bytealg_IndexByteString = none := by kernel_rfl
theorem indexByte_ok {s : Str} {c : Int} (hq : Q (.int .i64 (idxB s.data.toList c.toNat.toUInt8)) h) : EvQ P f_strings_IndexByte [.string s, .int .u8 c] h Q := by
  refine r_strings_IndexByte (r_stringslite_IndexByte ?_)
  unfold EvQ
  refine ⟨.int .i64 (idxB s.data.toList c.toNat.toUInt8), h, ⟨1, ?_⟩, hq⟩
  unfold callF
  rw [idx_body]
  simp only
  unfold sameV
  simp only
  rw [idx_fn]
/-- Where the reader stands. -/
abbrev rdr (rp : Nat) (T : Str) (p : Nat) (ln co : Int) : Res := .var rp [.string T, .int .i64 (p : Int), .int .i64 ln, .int .i64 co]
theorem drop_lt {L : List UInt8} {p : Nat} {c : UInt8} {r : List UInt8} (hd : L.drop p = c :: r) : p < L.length ∧ L[p]? = some c := by
  have hlt : p < L.length := by
    rcases Nat.lt_or_ge p L.length with x | x
    · exact x
    · rw [List.drop_eq_nil_of_le x] at hd; cases hd
  rw [List.drop_eq_getElem_cons hlt] at hd
  exact ⟨hlt, by rw [List.getElem?_eq_getElem hlt, (List.cons.inj hd).1]⟩
theorem drop_next {L : List UInt8} {p : Nat} {c : UInt8} {r : List UInt8} (hd : L.drop p = c :: r) : L.drop (p + 1) = r := by
  have := congrArg (List.drop 1) hd
  rw [List.drop_drop] at this
  simpa using this
theorem bAt_drop {T : Str} {p : Nat} {c : UInt8} {r : List UInt8} (hd : T.data.toList.drop p = c :: r) : bAt T p = some (c.toNat : Int) := by
  obtain ⟨h1, h2⟩ := drop_lt hd
  have : T.data[p]? = some c := by rw [← h2]; simp
  unfold bAt
  rw [this]
theorem noJoin {T : Str} {p : Nat} {c : UInt8} {r : List UInt8} (hd : T.data.toList.drop p = c :: r) (hj : c = 92 → r.head? ≠ some 10) :
    EvQ P f_strings_HasPrefix [.string (bSub T p T.size), .string ⟨#[92, 10]⟩] h fun v h' => v = .bool false ∧ h' = h := by
  have hsz : T.size = T.data.toList.length := rfl
  have hb : bSub T p T.size = ⟨⟨c :: r⟩⟩ := by
    unfold bSub
    rw [hd, List.take_of_length_le]
    rw [← hd, List.length_drop, hsz]; omega
  rw [hb]
  refine r_strings_HasPrefix (r_stringslite_HasPrefix ?_)
  refine bC_iff (fun e => ?_) (fun e => ?_)
  · have hl : (2 : Nat) ≤ (⟨⟨c :: r⟩⟩ : Str).size := by
      have := of_decide_eq_true e
      have h2 : (⟨#[92, 10]⟩ : Str).size = 2 := rfl
      omega
    rw [show natBnd ((⟨#[92, 10]⟩ : Str).size : Int) (⟨⟨c :: r⟩⟩ : Str).size = some 2 from natBnd_eq (j := 2) hl]
    simp only [oB_some, vBool_bool]
    refine ⟨?_, trivial⟩
    congr 1
    rw [← Bool.not_eq_true]
    intro x
    have := bEq_iff.1 x
    have := congrArg (fun s : ByteArray => s.data.toList) this
    simp only [bSub, List.drop_zero, Nat.sub_zero] at this
    cases r with
    | nil => simp at this
    | cons d r =>
      simp at this
      exact hj this.1 (by simp [this.2])
  · exact ⟨rfl, rfl⟩
theorem evq_mono {f : FuncId} {args : List Value} {K K' : Value → AW → Prop} (H : EvQ P f args h K) (hk : ∀ v h', K v h' → K' v h') : EvQ P f args h K' := by
  unfold EvQ at H ⊢
  obtain ⟨v, h', e, k⟩ := H
  exact ⟨v, h', e, hk _ _ k⟩
/-- The next byte. -/
theorem peek_ok (O : Own h μ ρ) (W : Pcs ρ0 ρ ns rs) (i : Nat) {rp p : Nat} {T : Str} {ln co : Int} (hi : rs[i]? = some (rdr rp T p ln co)) {c : UInt8} {r : List UInt8} (hd : T.data.toList.drop p = c :: r) (hj : c = 92 → r.head? ≠ some 10)
    (hq : Q (.tuple ⟨[.int .u8 (c.toNat : Int), .int .i64 1]⟩) h) : EvQ P f_p_lex_reader_peek [.pointer (some ⟨rp, 0, none⟩)] h Q := by
  obtain ⟨hlt, _⟩ := drop_lt hd
  have hlt : p < T.size := hlt
  refine r_p_lex_reader_peek ?_
  simp only [oB_some, bC_true, bC_false, vInt_int, vBool_bool, vStr_string, vPtr_pointer, vSl_slice, vMap_map, vFun_func, vAgg_agg, vTup_tuple, vIfc_nil, vIfc_iface, lC_cons, lN_nil, aP_some, shO_none, shO_some, Option.isNone_none, Option.isNone_some, Bool.not_true, Bool.not_false]
  refine w_rd O W i (j := 1) hi rfl ?_
  simp only [oB_some, bC_true, bC_false, vInt_int, vBool_bool, vStr_string, vPtr_pointer, vSl_slice, vMap_map, vFun_func, vAgg_agg, vTup_tuple, vIfc_nil, vIfc_iface, lC_cons, lN_nil, aP_some, shO_none, shO_some, Option.isNone_none, Option.isNone_some, Bool.not_true, Bool.not_false]
  refine w_rd O W i (j := 0) hi rfl ?_
  simp only [oB_some, bC_true, bC_false, vInt_int, vBool_bool, vStr_string, vPtr_pointer, vSl_slice, vMap_map, vFun_func, vAgg_agg, vTup_tuple, vIfc_nil, vIfc_iface, lC_cons, lN_nil, aP_some, shO_none, shO_some, Option.isNone_none, Option.isNone_some, Bool.not_true, Bool.not_false]
  rw [show ((p : Int) == (T.size : Int)) = false from by simp; omega]
  simp only [oB_some, bC_true, bC_false, vInt_int, vBool_bool, vStr_string, vPtr_pointer, vSl_slice, vMap_map, vFun_func, vAgg_agg, vTup_tuple, vIfc_nil, vIfc_iface, lC_cons, lN_nil, aP_some, shO_none, shO_some, Option.isNone_none, Option.isNone_some, Bool.not_true, Bool.not_false]
  refine w_rd O W i (j := 0) hi rfl ?_
  simp only [oB_some, bC_true, bC_false, vInt_int, vBool_bool, vStr_string, vPtr_pointer, vSl_slice, vMap_map, vFun_func, vAgg_agg, vTup_tuple, vIfc_nil, vIfc_iface, lC_cons, lN_nil, aP_some, shO_none, shO_some, Option.isNone_none, Option.isNone_some, Bool.not_true, Bool.not_false]
  refine w_rd O W i (j := 1) hi rfl ?_
  simp only [oB_some, bC_true, bC_false, vInt_int, vBool_bool, vStr_string, vPtr_pointer, vSl_slice, vMap_map, vFun_func, vAgg_agg, vTup_tuple, vIfc_nil, vIfc_iface, lC_cons, lN_nil, aP_some, shO_none, shO_some, Option.isNone_none, Option.isNone_some, Bool.not_true, Bool.not_false]
  rw [natBnd_eq (by omega)]
  simp only [oB_some, bC_true, bC_false, vInt_int, vBool_bool, vStr_string, vPtr_pointer, vSl_slice, vMap_map, vFun_func, vAgg_agg, vTup_tuple, vIfc_nil, vIfc_iface, lC_cons, lN_nil, aP_some, shO_none, shO_some, Option.isNone_none, Option.isNone_some, Bool.not_true, Bool.not_false]
  refine evq_mono (noJoin hd hj) fun v h' hv => ?_
  obtain ⟨rfl, rfl⟩ := hv
  simp only [oB_some, bC_true, bC_false, vInt_int, vBool_bool, vStr_string, vPtr_pointer, vSl_slice, vMap_map, vFun_func, vAgg_agg, vTup_tuple, vIfc_nil, vIfc_iface, lC_cons, lN_nil, aP_some, shO_none, shO_some, Option.isNone_none, Option.isNone_some, Bool.not_true, Bool.not_false]
  refine w_rd O W i (j := 0) hi rfl ?_
  simp only [oB_some, bC_true, bC_false, vInt_int, vBool_bool, vStr_string, vPtr_pointer, vSl_slice, vMap_map, vFun_func, vAgg_agg, vTup_tuple, vIfc_nil, vIfc_iface, lC_cons, lN_nil, aP_some, shO_none, shO_some, Option.isNone_none, Option.isNone_some, Bool.not_true, Bool.not_false]
  refine w_rd O W i (j := 1) hi rfl ?_
  simp only [oB_some, bC_true, bC_false, vInt_int, vBool_bool, vStr_string, vPtr_pointer, vSl_slice, vMap_map, vFun_func, vAgg_agg, vTup_tuple, vIfc_nil, vIfc_iface, lC_cons, lN_nil, aP_some, shO_none, shO_some, Option.isNone_none, Option.isNone_some, Bool.not_true, Bool.not_false]
  rw [natIdx_eq hlt]
  simp only [oB_some, bC_true, bC_false, vInt_int, vBool_bool, vStr_string, vPtr_pointer, vSl_slice, vMap_map, vFun_func, vAgg_agg, vTup_tuple, vIfc_nil, vIfc_iface, lC_cons, lN_nil, aP_some, shO_none, shO_some, Option.isNone_none, Option.isNone_some, Bool.not_true, Bool.not_false]
  refine oB_bind (bAt_drop hd) ?_
  exact hq
theorem peek_end (O : Own h μ ρ) (W : Pcs ρ0 ρ ns rs) (i : Nat) {rp : Nat} {T : Str} {ln co : Int} (hi : rs[i]? = some (rdr rp T T.size ln co))
    (hq : Q (.tuple ⟨[.int .u8 0, .int .i64 0]⟩) h) : EvQ P f_p_lex_reader_peek [.pointer (some ⟨rp, 0, none⟩)] h Q := by
  refine r_p_lex_reader_peek ?_
  simp only [oB_some, bC_true, bC_false, vInt_int, vBool_bool, vStr_string, vPtr_pointer, vSl_slice, vMap_map, vFun_func, vAgg_agg, vTup_tuple, vIfc_nil, vIfc_iface, lC_cons, lN_nil, aP_some, shO_none, shO_some, Option.isNone_none, Option.isNone_some, Bool.not_true, Bool.not_false]
  refine w_rd O W i (j := 1) hi rfl ?_
  simp only [oB_some, bC_true, bC_false, vInt_int, vBool_bool, vStr_string, vPtr_pointer, vSl_slice, vMap_map, vFun_func, vAgg_agg, vTup_tuple, vIfc_nil, vIfc_iface, lC_cons, lN_nil, aP_some, shO_none, shO_some, Option.isNone_none, Option.isNone_some, Bool.not_true, Bool.not_false]
  refine w_rd O W i (j := 0) hi rfl ?_
  simp only [oB_some, bC_true, bC_false, vInt_int, vBool_bool, vStr_string, vPtr_pointer, vSl_slice, vMap_map, vFun_func, vAgg_agg, vTup_tuple, vIfc_nil, vIfc_iface, lC_cons, lN_nil, aP_some, shO_none, shO_some, Option.isNone_none, Option.isNone_some, Bool.not_true, Bool.not_false]
  rw [show ((T.size : Int) == (T.size : Int)) = true from by simp]
  simp only [oB_some, bC_true, bC_false, vInt_int, vBool_bool, vStr_string, vPtr_pointer, vSl_slice, vMap_map, vFun_func, vAgg_agg, vTup_tuple, vIfc_nil, vIfc_iface, lC_cons, lN_nil, aP_some, shO_none, shO_some, Option.isNone_none, Option.isNone_some, Bool.not_true, Bool.not_false]
  exact hq
/-- A byte is gone on. -/
theorem next_ok (O : Own h μ ρ) (W : Pcs ρ0 ρ ns rs) (i : Nat) {rp p : Nat} {T : Str} (hT : T.size ≤ 1000000) {ln co : Int} (hi : rs[i]? = some (rdr rp T p ln co)) {c : UInt8} {r : List UInt8} (hd : T.data.toList.drop p = c :: r) (hj : c = 92 → r.head? ≠ some 10)
    (hq : ∀ h' ρ' ln' co', Own h' μ ρ' → Pcs ρ0 ρ' ns (rs.set i (rdr rp T (p + 1) ln' co')) → Q (.tuple ⟨[]⟩) h') : EvQ P f_p_lex_reader_next [.pointer (some ⟨rp, 0, none⟩)] h Q := by
  obtain ⟨hlt, _⟩ := drop_lt hd
  have hlt : p < T.size := hlt
  have hil : i < rs.length := (List.getElem?_eq_some_iff.1 hi).1
  refine r_p_lex_reader_next ?_
  refine peek_ok O W i hi hd hj ?_
  simp only [oB_some, bC_true, bC_false, vInt_int, vBool_bool, vStr_string, vPtr_pointer, vSl_slice, vMap_map, vFun_func, vAgg_agg, vTup_tuple, vIfc_nil, vIfc_iface, lC_cons, lN_nil, aP_some, shO_none, shO_some, Option.isNone_none, Option.isNone_some, Bool.not_true, Bool.not_false]
  refine w_rd O W i (j := 3) hi rfl ?_
  simp only [oB_some, bC_true, bC_false, vInt_int, vBool_bool, vStr_string, vPtr_pointer, vSl_slice, vMap_map, vFun_func, vAgg_agg, vTup_tuple, vIfc_nil, vIfc_iface, lC_cons, lN_nil, aP_some, shO_none, shO_some, Option.isNone_none, Option.isNone_some, Bool.not_true, Bool.not_false]
  refine w_wr O W i (j := 3) hi (by simp) rfl fun h1 ρ1 O1 W1 => ?_
  have hi1 : (rs.set i (.var rp ([.string T, .int .i64 (p : Int), .int .i64 ln, .int .i64 co].set 3 (.int .i64 (IntKind.wrap .i64 (co + 1))))))[i]? = some (rdr rp T p ln (IntKind.wrap .i64 (co + 1))) := by
    rw [List.getElem?_set_self hil]; rfl
  rw [show decide ((1 : Int) > 0) = true from rfl]
  simp only [oB_some, bC_true, bC_false, vInt_int, vBool_bool, vStr_string, vPtr_pointer, vSl_slice, vMap_map, vFun_func, vAgg_agg, vTup_tuple, vIfc_nil, vIfc_iface, lC_cons, lN_nil, aP_some, shO_none, shO_some, Option.isNone_none, Option.isNone_some, Bool.not_true, Bool.not_false]
  refine w_rd O1 W1 i (j := 0) hi1 rfl ?_
  simp only [oB_some, bC_true, bC_false, vInt_int, vBool_bool, vStr_string, vPtr_pointer, vSl_slice, vMap_map, vFun_func, vAgg_agg, vTup_tuple, vIfc_nil, vIfc_iface, lC_cons, lN_nil, aP_some, shO_none, shO_some, Option.isNone_none, Option.isNone_some, Bool.not_true, Bool.not_false]
  refine w_rd O1 W1 i (j := 1) hi1 rfl ?_
  simp only [oB_some, bC_true, bC_false, vInt_int, vBool_bool, vStr_string, vPtr_pointer, vSl_slice, vMap_map, vFun_func, vAgg_agg, vTup_tuple, vIfc_nil, vIfc_iface, lC_cons, lN_nil, aP_some, shO_none, shO_some, Option.isNone_none, Option.isNone_some, Bool.not_true, Bool.not_false]
  rw [wrapS (by omega), wrap_small (n := ((p + 1 : Nat) : Int) - 1) (by omega) (by omega), show ((p + 1 : Nat) : Int) - 1 = (p : Int) from by omega, natIdx_eq hlt]
  simp only [oB_some, bC_true, bC_false, vInt_int, vBool_bool, vStr_string, vPtr_pointer, vSl_slice, vMap_map, vFun_func, vAgg_agg, vTup_tuple, vIfc_nil, vIfc_iface, lC_cons, lN_nil, aP_some, shO_none, shO_some, Option.isNone_none, Option.isNone_some, Bool.not_true, Bool.not_false]
  refine oB_bind (bAt_drop hd) ?_
  have fin : ∀ {h2 : AW} {ρ2 : Store} {ln2 co2 : Int} {rs2 : List Res}, Own h2 μ ρ2 → Pcs ρ0 ρ2 ns rs2 → rs2[i]? = some (rdr rp T p ln2 co2) → (∀ x, rs2.set i x = rs.set i x) →
      unitAt P f_p_lex_reader_next 4 [0, 3] [.pointer (some ⟨rp, 0, none⟩), .int .i64 1] h2 Q := fun {h2 ρ2 ln2 co2 rs2} O2 W2 hi2 hs => by
    refine r_p_lex_reader_next_4 ?_
    simp only [oB_some, bC_true, bC_false, vInt_int, vBool_bool, vStr_string, vPtr_pointer, vSl_slice, vMap_map, vFun_func, vAgg_agg, vTup_tuple, vIfc_nil, vIfc_iface, lC_cons, lN_nil, aP_some, shO_none, shO_some, Option.isNone_none, Option.isNone_some, Bool.not_true, Bool.not_false]
    refine w_rd O2 W2 i (j := 1) hi2 rfl ?_
    simp only [oB_some, bC_true, bC_false, vInt_int, vBool_bool, vStr_string, vPtr_pointer, vSl_slice, vMap_map, vFun_func, vAgg_agg, vTup_tuple, vIfc_nil, vIfc_iface, lC_cons, lN_nil, aP_some, shO_none, shO_some, Option.isNone_none, Option.isNone_some, Bool.not_true, Bool.not_false]
    refine w_wr O2 W2 i (j := 1) hi2 (by simp) rfl fun h3 ρ3 O3 W3 => ?_
    rw [wrapS (by omega)] at W3
    refine hq _ _ ln2 co2 O3 (W3.eq ?_)
    rw [hs]; rfl
  refine bC_iff (fun e => ?_) (fun e => ?_)
  · refine w_rd O1 W1 i (j := 2) hi1 rfl ?_
    simp only [oB_some, bC_true, bC_false, vInt_int, vBool_bool, vStr_string, vPtr_pointer, vSl_slice, vMap_map, vFun_func, vAgg_agg, vTup_tuple, vIfc_nil, vIfc_iface, lC_cons, lN_nil, aP_some, shO_none, shO_some, Option.isNone_none, Option.isNone_some, Bool.not_true, Bool.not_false]
    refine w_wr O1 W1 i (j := 2) hi1 (by simp) rfl fun h2 ρ2 O2 W2 => ?_
    have hi2 : ((rs.set i (.var rp ([.string T, .int .i64 (p : Int), .int .i64 ln, .int .i64 co].set 3 (.int .i64 (IntKind.wrap .i64 (co + 1)))))).set i (.var rp (([.string T, .int .i64 (p : Int), .int .i64 ln, .int .i64 (IntKind.wrap .i64 (co + 1))]).set 2 (.int .i64 (IntKind.wrap .i64 (ln + 1))))))[i]? = some (rdr rp T p (IntKind.wrap .i64 (ln + 1)) (IntKind.wrap .i64 (co + 1))) := by
      rw [List.getElem?_set_self (by simpa using hil)]; rfl
    refine w_wr O2 W2 i (j := 3) hi2 (by simp) rfl fun h3 ρ3 O3 W3 => ?_
    refine fin (ln2 := IntKind.wrap .i64 (ln + 1)) (co2 := 0) O3 W3 ?_ (fun x => by simp [List.set_set])
    rw [List.getElem?_set_self (by simpa using hil)]; rfl
  · exact fin O1 W1 hi1 fun x => by rw [List.set_set]
end Go.Proofs.YtgdkekdedgkglaaDoor
end
