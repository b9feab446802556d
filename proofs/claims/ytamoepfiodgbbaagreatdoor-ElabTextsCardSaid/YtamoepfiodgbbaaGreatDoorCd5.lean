/- A deterministic heap for the model, proved sound, and walks of the program over it: part 11. No condition. -/
import Derived.Test.YtamoepfiodgbbaaGreatDoorAb1
import Derived.Test.YtamoepfiodgbbaaGreatDoorAb2
import Derived.Test.YtamoepfiodgbbaaGreatDoorAb3
import Derived.Test.YtamoepfiodgbbaaGreatDoorAb4
import Derived.Test.YtamoepfiodgbbaaGreatDoorAb6
import Derived.Test.YtamoepfiodgbbaaGreatDoorAb5
import Derived.Test.YtamoepfiodgbbaaGreatDoorCd4
import Derived.Test.YtamoepfiodgbbaaGreatDoorCd3
import Derived.Test.YtamoepfiodgbbaaGreatDoorCd2
import Derived.Test.YtamoepfiodgbbaaGreatDoorCd1
set_option linter.unusedVariables false
set_option linter.unusedSimpArgs false
set_option linter.unusedSectionVars false
section
/- strings.Builder; words as text. -/
namespace Go.Proofs.YtamoepfiodgbbaaGreatDoor
open Go.Abs Go.Abs.Fo
set_option maxRecDepth 100000
attribute [local irreducible] unitAt EvQ
variable {h : AW} {μ : Paint} {ρ0 ρ : Store} {Q : Value → AW → Prop} {ns : List Nat} {rs : List Res}
theorem same_fn : sameFn P f_abi_NoEscape = true := by kernel_rfl
theorem no_body : bodyOf P f_abi_NoEscape = none := by kernel_rfl
theorem noEscape_ok {p : Option Addr} (hq : Q (.pointer p) h) : EvQ P f_abi_NoEscape [.pointer p] h Q := by
  unfold EvQ
  refine ⟨_, _, ⟨1, ?_⟩, hq⟩
  unfold callF
  rw [no_body]
  simp only
  unfold noBodyV
  simp only
  unfold sameV
  simp only
  rw [same_fn]
/-- A builder's pieces. -/
def bldR (p : Nat) (u : Option Addr) (b : Option Nat) (cap : Nat) (l : List UInt8) (rs : List Res) : List Res :=
  .sl (basA b) cap 1 (ofBytes l) :: tyR b ty_uint8 :: .var p [.pointer u, .slice (basA b) l.length cap] :: .ty p ty_strings_Builder :: rs
theorem eq_pp (p : Nat) : eqV P ty_p_strings_Builder false (.pointer (some ⟨p, 0, none⟩)) (.pointer (some ⟨p, 0, none⟩)) = some true := by
  unfold eqV
  rw [ti_ty_p_strings_Builder]
  simp only
  rw [ti_ty_strings_Builder, Nat.beq_refl]
  rfl
theorem cc_ok (O : Own h μ ρ) {p cap : Nat} {u : Option Addr} {b : Option Nat} {l : List UInt8} (W : Pcs ρ0 ρ ns (bldR p u b cap l rs)) (hu : u = none ∨ u = some ⟨p, 0, none⟩)
    (hq : ∀ h' μ' ρ', Own h' μ' ρ' → Pcs ρ0 ρ' ns (bldR p (some ⟨p, 0, none⟩) b cap l rs) → Q (.tuple ⟨[]⟩) h') : EvQ P f_p_strings_Builder_copyCheck [.pointer (some ⟨p, 0, none⟩)] h Q := by
  refine r_p_strings_Builder_copyCheck ?_
  simp only [aP_some]
  refine w_rd O W 2 (j := 0) rfl rfl ?_
  rcases hu with rfl | rfl
  · simp only [oB_some, bC_true, bC_false, vInt_int, vBool_bool, vStr_string, vPtr_pointer, vSl_slice, vMap_map, vFun_func, vAgg_agg, vTup_tuple, vIfc_nil, vIfc_iface, lC_cons, lN_nil, aP_some, shO_none, shO_some, Option.isNone_none, Option.isNone_some, Bool.not_true, Bool.not_false]
    refine w_toU O W 2 rfl (Nat.zero_lt_succ _) ti_ty_p_strings_Builder ti_ty_unsafe_Pointer ti_ty_strings_Builder rfl ?_
    simp only [oB_some, bC_true, bC_false, vInt_int, vBool_bool, vStr_string, vPtr_pointer, vSl_slice, vMap_map, vFun_func, vAgg_agg, vTup_tuple, vIfc_nil, vIfc_iface, lC_cons, lN_nil, aP_some, shO_none, shO_some, Option.isNone_none, Option.isNone_some, Bool.not_true, Bool.not_false]
    refine noEscape_ok ?_
    simp only [oB_some, bC_true, bC_false, vInt_int, vBool_bool, vStr_string, vPtr_pointer, vSl_slice, vMap_map, vFun_func, vAgg_agg, vTup_tuple, vIfc_nil, vIfc_iface, lC_cons, lN_nil, aP_some, shO_none, shO_some, Option.isNone_none, Option.isNone_some, Bool.not_true, Bool.not_false]
    refine w_fromU O W 2 3 rfl rfl ti_ty_unsafe_Pointer ti_ty_p_strings_Builder ti_ty_strings_Builder rfl (Nat.le_refl 2) ?_
    simp only [oB_some, bC_true, bC_false, vInt_int, vBool_bool, vStr_string, vPtr_pointer, vSl_slice, vMap_map, vFun_func, vAgg_agg, vTup_tuple, vIfc_nil, vIfc_iface, lC_cons, lN_nil, aP_some, shO_none, shO_some, Option.isNone_none, Option.isNone_some, Bool.not_true, Bool.not_false]
    refine w_wr O W 2 (j := 0) rfl (Nat.le_of_ble_eq_true rfl) rfl fun h' ρ' O' W' => ?_
    exact hq _ _ _ O' W'
  · simp only [oB_some, bC_true, bC_false, vInt_int, vBool_bool, vStr_string, vPtr_pointer, vSl_slice, vMap_map, vFun_func, vAgg_agg, vTup_tuple, vIfc_nil, vIfc_iface, lC_cons, lN_nil, aP_some, shO_none, shO_some, Option.isNone_none, Option.isNone_some, Bool.not_true, Bool.not_false]
    refine w_rd O W 2 (j := 0) rfl rfl ?_
    simp only [oB_some, bC_true, bC_false, vInt_int, vBool_bool, vStr_string, vPtr_pointer, vSl_slice, vMap_map, vFun_func, vAgg_agg, vTup_tuple, vIfc_nil, vIfc_iface, lC_cons, lN_nil, aP_some, shO_none, shO_some, Option.isNone_none, Option.isNone_some, Bool.not_true, Bool.not_false]
    rw [eq_pp]
    simp only [oB_some, bC_true, bC_false, vInt_int, vBool_bool, vStr_string, vPtr_pointer, vSl_slice, vMap_map, vFun_func, vAgg_agg, vTup_tuple, vIfc_nil, vIfc_iface, lC_cons, lN_nil, aP_some, shO_none, shO_some, Option.isNone_none, Option.isNone_some, Bool.not_true, Bool.not_false]
    exact hq _ _ _ O W
theorem ofB_snoc (l : List UInt8) (c : UInt8) : ofBytes l ++ [.int .u8 (c.toNat : Int)] = ofBytes (l ++ [c]) := by
  unfold ofBytes; rw [List.map_append]; rfl
theorem ofB_app (l m : List UInt8) : ofBytes l ++ ofBytes m = ofBytes (l ++ m) := by
  unfold ofBytes; rw [List.map_append]
theorem ofB_len (l : List UInt8) : (ofBytes l).length = l.length := by unfold ofBytes; rw [List.length_map]
/-- A byte is written. -/
theorem wb_ok (O : Own h μ ρ) {p cap : Nat} {u : Option Addr} {b : Option Nat} {l : List UInt8} (W : Pcs ρ0 ρ ns (bldR p u b cap l rs)) (hu : u = none ∨ u = some ⟨p, 0, none⟩) (c : UInt8) {z : Int} (hz : z = (c.toNat : Int)) (hl : l.length ≤ 1000000000)
    (hq : ∀ h' μ' ρ' b' cap', Own h' μ' ρ' → Pcs ρ0 ρ' ns (bldR p (some ⟨p, 0, none⟩) b' cap' (l ++ [c]) rs) → Q .nilIface h') : EvQ P f_p_strings_Builder_WriteByte [.pointer (some ⟨p, 0, none⟩), .int .u8 z] h Q := by
  subst hz
  refine r_p_strings_Builder_WriteByte ?_
  refine cc_ok O W hu fun h1 μ1 ρ1 O1 W1 => ?_
  simp only [aP_some]
  refine w_rd O1 W1 2 (j := 1) rfl rfl ?_
  simp only [oB_some, bC_true, bC_false, vInt_int, vBool_bool, vStr_string, vPtr_pointer, vSl_slice, vMap_map, vFun_func, vAgg_agg, vTup_tuple, vIfc_nil, vIfc_iface, lC_cons, lN_nil, aP_some, shO_none, shO_some, Option.isNone_none, Option.isNone_some, Bool.not_true, Bool.not_false]
  obtain ⟨μ2, ρ2, c2, O2, W2, hc2⟩ := w_block O1 W1 [.int .u8 (c.toNat : Int)] (n := 1) (sz := 1) rfl rfl
  refine w_appT (P := P) (m := 1) O2 W2 1 2 (by decide) ti_ty_sl_uint8 ti_ty_uint8 rfl rfl (ofB_len l).symm (w_sl O2 W2 0 rfl) rfl rfl (by omega) (by omega) fun b' cap' h3 μ3 ρ3 O3 W3 => ?_
  simp only [oB_some, bC_true, bC_false, vInt_int, vBool_bool, vStr_string, vPtr_pointer, vSl_slice, vMap_map, vFun_func, vAgg_agg, vTup_tuple, vIfc_nil, vIfc_iface, lC_cons, lN_nil, aP_some, shO_none, shO_some, Option.isNone_none, Option.isNone_some, Bool.not_true, Bool.not_false]
  have W4 := W3.tail hc2
  refine w_wr O3 W4 2 (j := 1) rfl (Nat.le_of_ble_eq_true rfl) rfl fun h5 ρ5 O5 W5 => ?_
  refine hq _ _ _ b' cap' O5 (W5.eq ?_)
  simp only [bldR, ← ofB_snoc, List.length_append, List.length_cons, List.length_nil]
  rfl
/-- A string is written. -/
theorem ws_ok (O : Own h μ ρ) {p cap : Nat} {u : Option Addr} {b : Option Nat} {l : List UInt8} (W : Pcs ρ0 ρ ns (bldR p u b cap l rs)) (hu : u = none ∨ u = some ⟨p, 0, none⟩) (s : Str) (hl : l.length ≤ 1000000000) (hs : s.size ≤ 1000000000)
    (hq : ∀ h' μ' ρ' b' cap', Own h' μ' ρ' → Pcs ρ0 ρ' ns (bldR p (some ⟨p, 0, none⟩) b' cap' (l ++ s.data.toList) rs) → Q (.tuple ⟨[.int .i64 (s.size : Int), .nilIface]⟩) h') : EvQ P f_p_strings_Builder_WriteString [.pointer (some ⟨p, 0, none⟩), .string s] h Q := by
  refine r_p_strings_Builder_WriteString ?_
  refine cc_ok O W hu fun h1 μ1 ρ1 O1 W1 => ?_
  simp only [aP_some]
  refine w_rd O1 W1 2 (j := 1) rfl rfl ?_
  simp only [oB_some, bC_true, bC_false, vInt_int, vBool_bool, vStr_string, vPtr_pointer, vSl_slice, vMap_map, vFun_func, vAgg_agg, vTup_tuple, vIfc_nil, vIfc_iface, lC_cons, lN_nil, aP_some, shO_none, shO_some, Option.isNone_none, Option.isNone_some, Bool.not_true, Bool.not_false]
  refine w_appS (P := P) O1 W1 0 1 (by decide) ti_ty_sl_uint8 ti_ty_uint8 ti_ty_string rfl rfl rfl (ofB_len l).symm (by omega) (by omega) fun b' cap' h3 μ3 ρ3 O3 W3 => ?_
  simp only [oB_some, bC_true, bC_false, vInt_int, vBool_bool, vStr_string, vPtr_pointer, vSl_slice, vMap_map, vFun_func, vAgg_agg, vTup_tuple, vIfc_nil, vIfc_iface, lC_cons, lN_nil, aP_some, shO_none, shO_some, Option.isNone_none, Option.isNone_some, Bool.not_true, Bool.not_false]
  refine w_wr O3 W3 2 (j := 1) rfl (Nat.le_of_ble_eq_true rfl) rfl fun h5 ρ5 O5 W5 => ?_
  refine hq _ _ _ b' cap' O5 (W5.eq ?_)
  have hsz : s.size = s.data.toList.length := rfl
  simp only [bldR, ← ofB_app, List.length_append, hsz]
  rfl
/-- Its bytes are taken for a string. -/
theorem bs_ok (O : Own h μ ρ) {p cap n1 n2 : Nat} {u : Option Addr} {b : Option Nat} {l : List UInt8} (W : Pcs ρ0 ρ (n1 :: n2 :: ns) (bldR p u b cap l rs)) (h1 : ρ0 n1 = none) (h2 : ρ0 n2 = none) (hl : l.length ≤ 1000000000) (hb : l = [] → b = none)
    (hq : ∀ h' ρ', Own h' μ ρ' → Pcs ρ0 ρ' ns (.var p [.pointer u, .slice (basA b) l.length cap] :: .ty p ty_strings_Builder :: rs) → Q (.string ⟨⟨l⟩⟩) h') : EvQ P f_p_strings_Builder_String [.pointer (some ⟨p, 0, none⟩)] h Q := by
  refine r_p_strings_Builder_String ?_
  simp only [aP_some]
  refine w_rd O W 2 (j := 1) rfl rfl ?_
  simp only [oB_some, bC_true, bC_false, vInt_int, vBool_bool, vStr_string, vPtr_pointer, vSl_slice, vMap_map, vFun_func, vAgg_agg, vTup_tuple, vIfc_nil, vIfc_iface, lC_cons, lN_nil, aP_some, shO_none, shO_some, Option.isNone_none, Option.isNone_some, Bool.not_true, Bool.not_false]
  by_cases h0 : l = []
  · have hb' := hb h0
    subst hb'
    subst h0
    simp only [basA]
    refine oB_bind (v := .pointer none) rfl ?_
    simp only [oB_some, bC_true, bC_false, vInt_int, vBool_bool, vStr_string, vPtr_pointer, vSl_slice, vMap_map, vFun_func, vAgg_agg, vTup_tuple, vIfc_nil, vIfc_iface, lC_cons, lN_nil, aP_some, shO_none, shO_some, Option.isNone_none, Option.isNone_some, Bool.not_true, Bool.not_false]
    refine w_rd O W 2 (j := 1) rfl rfl ?_
    simp only [oB_some, bC_true, bC_false, vInt_int, vBool_bool, vStr_string, vPtr_pointer, vSl_slice, vMap_map, vFun_func, vAgg_agg, vTup_tuple, vIfc_nil, vIfc_iface, lC_cons, lN_nil, aP_some, shO_none, shO_some, Option.isNone_none, Option.isNone_some, Bool.not_true, Bool.not_false]
    exact hq _ _ O ((W.tail h1).tail h2)
  · have hlen : 0 < l.length := List.length_pos_iff.2 h0
    have hcap : l.length ≤ cap := by have := w_cap O W 0 rfl; rw [ofB_len] at this; omega
    cases b with
    | none =>
      have M : OM h μ n1 none cap 1 (ofBytes l) := O.holds _ _ (W.at_ 0 _ _ rfl rfl)
      rcases M.mem with ⟨_, e⟩ | ⟨_, _, e, _⟩
      · omega
      · cases e
    | some i =>
      have hs : sdataB [.slice (some ⟨i, 0, none⟩) l.length cap] = some (.pointer (some ⟨i, 0, none⟩)) := by
        unfold sdataB
        simp only
        rw [show Nat.beq cap 0 = false from by rw [← Bool.not_eq_true, Nat.beq_eq]; omega]
      refine oB_bind hs ?_
      simp only [oB_some, bC_true, bC_false, vInt_int, vBool_bool, vStr_string, vPtr_pointer, vSl_slice, vMap_map, vFun_func, vAgg_agg, vTup_tuple, vIfc_nil, vIfc_iface, lC_cons, lN_nil, aP_some, shO_none, shO_some, Option.isNone_none, Option.isNone_some, Bool.not_true, Bool.not_false]
      refine w_rd O W 2 (j := 1) rfl rfl ?_
      simp only [oB_some, bC_true, bC_false, vInt_int, vBool_bool, vStr_string, vPtr_pointer, vSl_slice, vMap_map, vFun_func, vAgg_agg, vTup_tuple, vIfc_nil, vIfc_iface, lC_cons, lN_nil, aP_some, shO_none, shO_some, Option.isNone_none, Option.isNone_some, Bool.not_true, Bool.not_false]
      refine w_ustr (P := P) (bs := l) O W h1 h2 ti_ty_p_uint8 ti_ty_uint8 rfl rfl h0 (by omega) fun h3 ρ3 O3 W3 => ?_
      simp only [oB_some, bC_true, bC_false, vInt_int, vBool_bool, vStr_string, vPtr_pointer, vSl_slice, vMap_map, vFun_func, vAgg_agg, vTup_tuple, vIfc_nil, vIfc_iface, lC_cons, lN_nil, aP_some, shO_none, shO_some, Option.isNone_none, Option.isNone_some, Bool.not_true, Bool.not_false]
      exact hq _ _ O3 W3
/-- May a byte stand without quotes: as made, and as said. -/
theorem bare_ok {n : Nat} (hq : Q (.bool (bareN n)) h) : EvQ P f_lex_bare [.int .u8 (n : Int)] h Q := by
  refine r_lex_bare ?_
  have c : ∀ k : Nat, ((n : Int) == (k : Int)) = (n == k) := fun k => by
    rw [Bool.eq_iff_iff]; simp only [beq_iff_eq]; omega
  have c34 : ((n : Int) == 34) = (n == 34) := c 34
  have c35 : ((n : Int) == 35) = (n == 35) := c 35
  have c58 : ((n : Int) == 58) = (n == 58) := c 58
  have c61 : ((n : Int) == 61) = (n == 61) := c 61
  have c92 : ((n : Int) == 92) = (n == 92) := c 92
  unfold bareN at hq
  refine bC_iff (fun e => ?_) (fun e1 => ?_)
  · rw [c34] at e; rw [e] at hq; exact hq
  rw [c34] at e1
  refine bC_iff (fun e => ?_) (fun e2 => ?_)
  · rw [c35] at e; rw [e1, e] at hq; exact hq
  rw [c35] at e2
  refine bC_iff (fun e => ?_) (fun e3 => ?_)
  · rw [c58] at e; rw [e1, e2, e] at hq; exact hq
  rw [c58] at e3
  refine bC_iff (fun e => ?_) (fun e4 => ?_)
  · rw [c61] at e; rw [e1, e2, e3, e] at hq; exact hq
  rw [c61] at e4
  refine bC_iff (fun e => ?_) (fun e5 => ?_)
  · rw [c92] at e; rw [e1, e2, e3, e4, e] at hq; exact hq
  rw [c92] at e5
  rw [e1, e2, e3, e4, e5] at hq
  refine bC_iff (fun e => ?_) (fun e => ?_)
  · have e := of_decide_eq_true e
    rw [decide_eq_true (show 32 < n by omega)] at hq
    rw [show decide ((n : Int) < 127) = decide (n < 127) from by rw [Bool.eq_iff_iff]; simp only [decide_eq_true_eq]; omega]
    exact hq
  · have e := of_decide_eq_false e
    rw [decide_eq_false (show ¬ 32 < n by omega)] at hq
    exact hq
theorem rbare_ok {n : Nat} (hq : Q (.bool (bareN n)) h) : EvQ P f_brickyardref11_Bare [.int .u8 (n : Int)] h Q := by
  refine r_brickyardref11_Bare ?_
  have c : ∀ k : Nat, ((n : Int) != (k : Int)) = !(n == k) := fun k => by
    rw [Bool.eq_iff_iff]; simp only [bne_iff_ne, Bool.not_eq_true', beq_eq_false_iff_ne, ne_eq]; omega
  have c34 : ((n : Int) != 34) = !(n == 34) := c 34
  have c35 : ((n : Int) != 35) = !(n == 35) := c 35
  have c58 : ((n : Int) != 58) = !(n == 58) := c 58
  have c61 : ((n : Int) != 61) = !(n == 61) := c 61
  have c92 : ((n : Int) != 92) = !(n == 92) := c 92
  unfold bareN at hq
  refine bC_iff (fun e => ?_) (fun e => ?_)
  rotate_left
  · have e := of_decide_eq_false e
    rw [decide_eq_false (show ¬ 32 < n by omega)] at hq
    simp only [Bool.and_false, Bool.false_and] at hq
    exact hq
  have e := of_decide_eq_true e
  rw [decide_eq_true (show 32 < n by omega)] at hq
  refine bC_iff (fun e => ?_) (fun e => ?_)
  rotate_left
  · have e := of_decide_eq_false e
    rw [decide_eq_false (show ¬ n < 127 by omega)] at hq
    simp only [Bool.and_false] at hq
    exact hq
  have e := of_decide_eq_true e
  rw [decide_eq_true (show n < 127 by omega)] at hq
  simp only [Bool.and_true] at hq
  refine bC_iff (fun e => ?_) (fun e => ?_)
  rotate_left
  · rw [c34] at e; rw [e] at hq; exact hq
  rw [c34] at e
  rw [e] at hq
  refine bC_iff (fun e => ?_) (fun e => ?_)
  rotate_left
  · rw [c35] at e; rw [e] at hq; exact hq
  rw [c35] at e
  rw [e] at hq
  refine bC_iff (fun e => ?_) (fun e => ?_)
  rotate_left
  · rw [c58] at e; rw [e] at hq; exact hq
  rw [c58] at e
  rw [e] at hq
  refine bC_iff (fun e => ?_) (fun e => ?_)
  rotate_left
  · rw [c61] at e; rw [e] at hq; exact hq
  rw [c61] at e
  rw [e] at hq
  rw [c92]
  exact hq
theorem bAt_of {s : Str} {k : Nat} (hk : k < s.size) : bAt s k = some ((s.data.toList[k]'hk).toNat : Int) := by
  unfold bAt
  rw [Array.getElem?_eq_getElem (by exact hk)]
  simp
/-- A word that may stand without quotes. -/
theorem all_at {l : List UInt8} {k : Nat} (hk : k < l.length) (hp : ∀ j (hj : j < l.length), j < k → bareN (l[j]).toNat = true) : (bareN (l[k]).toNat = false → plainL l = false) ∧ (bareN (l[k]).toNat = true → ∀ j (hj : j < l.length), j < k + 1 → bareN (l[j]).toNat = true) := by
  refine ⟨fun h => ?_, fun h j hj hlt => ?_⟩
  · unfold plainL
    rw [Bool.and_eq_false_iff]
    left
    rw [← Bool.not_eq_true, List.all_eq_true]
    intro x
    have := x _ (List.getElem_mem hk)
    rw [h] at this
    cases this
  · by_cases e : j = k
    · subst e; exact h
    · exact hp j hj (by omega)
theorem all_end {s : Str} (hp : ∀ j (hj : j < s.data.toList.length), j < s.data.toList.length → bareN (s.data.toList[j]).toNat = true) : plainL s.data.toList = !bEq s ⟨#[]⟩ := by
  unfold plainL
  have h1 : (s.data.toList.all fun c => bareN c.toNat) = true := by
    rw [List.all_eq_true]
    intro c hc
    obtain ⟨j, hj, e⟩ := List.getElem_of_mem hc
    rw [← e]
    exact hp j hj hj
  rw [h1, Bool.true_and]
  congr 1
  rw [Bool.eq_iff_iff, bEq_iff, List.isEmpty_iff]
  constructor
  · intro h; exact ByteArray.ext (Array.toList_inj.1 h)
  · rintro rfl; rfl
theorem plain_loop {s : Str} (hs : s.size ≤ 1000000000) (hq : Q (.bool (plainL s.data.toList)) h) : ∀ (d k : Nat), s.size - k = d → k ≤ s.size → (∀ j (hj : j < s.data.toList.length), j < k → bareN (s.data.toList[j]).toNat = true) →
    unitAt P f_lex_Plain 2 [0, 5, 6] [.string s, .int .i64 (s.size : Int), .int .i64 (k : Int)] h Q := by
  have hlen : s.data.toList.length = s.size := rfl
  intro d
  induction d with
  | zero =>
    intro k hd hk hp
    refine r_lex_Plain_2 ?_
    rw [geI (by omega)]
    simp only [oB_some, bC_true, bC_false, vInt_int, vBool_bool, vStr_string, vPtr_pointer, vSl_slice, vMap_map, vFun_func, vAgg_agg, vTup_tuple, vIfc_nil, vIfc_iface, lC_cons, lN_nil, aP_some, shO_none, shO_some, Option.isNone_none, Option.isNone_some, Bool.not_true, Bool.not_false]
    rw [all_end fun j hj _ => hp j hj (by omega)] at hq
    exact hq
  | succ d ih =>
    intro k hd hk hp
    have hlt : k < s.size := by omega
    refine r_lex_Plain_2 ?_
    rw [ltI hlt, natIdx_eq hlt]
    simp only [oB_some, bC_true, bC_false, vInt_int, vBool_bool, vStr_string, vPtr_pointer, vSl_slice, vMap_map, vFun_func, vAgg_agg, vTup_tuple, vIfc_nil, vIfc_iface, lC_cons, lN_nil, aP_some, shO_none, shO_some, Option.isNone_none, Option.isNone_some, Bool.not_true, Bool.not_false]
    refine oB_bind (bAt_of hlt) ?_
    refine bare_ok ?_
    simp only [oB_some, bC_true, bC_false, vInt_int, vBool_bool, vStr_string, vPtr_pointer, vSl_slice, vMap_map, vFun_func, vAgg_agg, vTup_tuple, vIfc_nil, vIfc_iface, lC_cons, lN_nil, aP_some, shO_none, shO_some, Option.isNone_none, Option.isNone_some, Bool.not_true, Bool.not_false]
    obtain ⟨a1, a2⟩ := all_at (l := s.data.toList) hlt hp
    refine bC_iff (fun e => ?_) (fun e => ?_)
    · rw [a1 (by simpa using e)] at hq
      exact hq
    · rw [wrapS (by omega)]
      exact ih (k + 1) (by omega) (by omega) (a2 (by simpa using e))
theorem rplain_loop {s : Str} (hs : s.size ≤ 1000000000) (hq : Q (.bool (plainL s.data.toList)) h) : ∀ (d k : Nat), s.size - k = d → k ≤ s.size → (∀ j (hj : j < s.data.toList.length), j < k → bareN (s.data.toList[j]).toNat = true) →
    unitAt P f_brickyardref11_Plain 2 [0, 3] [.string s, .int .i64 (k : Int)] h Q := by
  have hlen : s.data.toList.length = s.size := rfl
  intro d
  induction d with
  | zero =>
    intro k hd hk hp
    refine r_brickyardref11_Plain_2 ?_
    rw [geI (by omega)]
    simp only [oB_some, bC_true, bC_false, vInt_int, vBool_bool, vStr_string, vPtr_pointer, vSl_slice, vMap_map, vFun_func, vAgg_agg, vTup_tuple, vIfc_nil, vIfc_iface, lC_cons, lN_nil, aP_some, shO_none, shO_some, Option.isNone_none, Option.isNone_some, Bool.not_true, Bool.not_false]
    rw [all_end fun j hj _ => hp j hj (by omega)] at hq
    rw [show decide ((s.size : Int) > 0) = !bEq s ⟨#[]⟩ from by
      rw [Bool.eq_iff_iff, decide_eq_true_eq, Bool.not_eq_true', bEq_false]
      constructor
      · rintro x rfl; exact absurd x (by decide)
      · intro x
        rcases Nat.eq_zero_or_pos s.size with z | z
        · exact absurd (ByteArray.ext (Array.eq_empty_of_size_eq_zero z)) x
        · omega]
    exact hq
  | succ d ih =>
    intro k hd hk hp
    have hlt : k < s.size := by omega
    refine r_brickyardref11_Plain_2 ?_
    rw [ltI hlt, natIdx_eq hlt]
    simp only [oB_some, bC_true, bC_false, vInt_int, vBool_bool, vStr_string, vPtr_pointer, vSl_slice, vMap_map, vFun_func, vAgg_agg, vTup_tuple, vIfc_nil, vIfc_iface, lC_cons, lN_nil, aP_some, shO_none, shO_some, Option.isNone_none, Option.isNone_some, Bool.not_true, Bool.not_false]
    refine oB_bind (bAt_of hlt) ?_
    refine rbare_ok ?_
    simp only [oB_some, bC_true, bC_false, vInt_int, vBool_bool, vStr_string, vPtr_pointer, vSl_slice, vMap_map, vFun_func, vAgg_agg, vTup_tuple, vIfc_nil, vIfc_iface, lC_cons, lN_nil, aP_some, shO_none, shO_some, Option.isNone_none, Option.isNone_some, Bool.not_true, Bool.not_false]
    obtain ⟨a1, a2⟩ := all_at (l := s.data.toList) hlt hp
    refine bC_iff (fun e => ?_) (fun e => ?_)
    · rw [a1 (by simpa using e)] at hq
      exact hq
    · rw [wrapS (by omega)]
      exact ih (k + 1) (by omega) (by omega) (a2 (by simpa using e))
end Go.Proofs.YtamoepfiodgbbaaGreatDoor
end

section
/- Words as text, quoted or not: as made, and as said. -/
namespace Go.Proofs.YtamoepfiodgbbaaGreatDoor
open Go.Abs Go.Abs.Fo
set_option maxRecDepth 100000
attribute [local irreducible] unitAt EvQ
variable {h : AW} {μ : Paint} {ρ0 ρ : Store} {Q : Value → AW → Prop} {ns : List Nat} {rs : List Res}
theorem quote_le (l : List UInt8) : (quoteL l).length ≤ 2 * l.length + 2 := by
  have := flat_len l
  simp only [quoteL, List.length_cons, List.length_append, List.length_nil]
  omega
theorem quote_4 {s : Str} (hs : s.size ≤ 100000000) {p n1 n2 n3 n4 : Nat} (h1 : ρ n1 = none) (h2 : ρ n2 = none) (h3 : ρ n3 = none) (h4 : ρ n4 = none) (hq : RdQ Q ρ (.string ⟨⟨quoteL s.data.toList⟩⟩)) :
    ∀ (d k : Nat) {h : AW} {μ : Paint} {ρ' : Store} {acc : List UInt8} {b : Option Nat} {cap : Nat}, s.size - k = d → k ≤ s.size → Own h μ ρ' → Pcs ρ ρ' [n1, n2, n3, n4] (bldR p (some ⟨p, 0, none⟩) b cap acc []) → acc ≠ [] → acc ++ ((s.data.toList.drop k).flatMap escL ++ [34]) = quoteL s.data.toList →
      unitAt P f_lex_Quote 4 [0, 3, 8, 9] [.string s, .pointer (some ⟨p, 0, none⟩), .int .i64 (s.size : Int), .int .i64 (k : Int)] h Q := by
  have hlen : s.data.toList.length = s.size := rfl
  have hql := quote_le s.data.toList
  intro d
  induction d with
  | zero =>
    intro k h μ ρ' acc b cap hd hk O W h0 ha
    have hacc : acc.length ≤ 1000000000 := by
      have := congrArg List.length ha
      simp only [List.length_append] at this
      omega
    rw [List.drop_eq_nil_of_le (by omega), List.flatMap_nil, List.nil_append] at ha
    refine r_lex_Quote_4 ?_
    rw [geI (by omega)]
    simp only [oB_some, bC_true, bC_false, vInt_int, vBool_bool, vStr_string, vPtr_pointer, vSl_slice, vMap_map, vFun_func, vAgg_agg, vTup_tuple, vIfc_nil, vIfc_iface, lC_cons, lN_nil, aP_some, shO_none, shO_some, Option.isNone_none, Option.isNone_some, Bool.not_true, Bool.not_false]
    refine wb_ok O W (.inr rfl) 34 rfl hacc fun h5 μ5 ρ5 b5 cap5 O5 W5 => ?_
    simp only [oB_some, bC_true, bC_false, vInt_int, vBool_bool, vStr_string, vPtr_pointer, vSl_slice, vMap_map, vFun_func, vAgg_agg, vTup_tuple, vIfc_nil, vIfc_iface, lC_cons, lN_nil, aP_some, shO_none, shO_some, Option.isNone_none, Option.isNone_some, Bool.not_true, Bool.not_false]
    rw [ha] at W5
    refine bs_ok O5 W5 h1 h2 (by omega) (fun e => by rw [← ha] at e; simp at e) fun h6 ρ6 O6 W6 => ?_
    simp only [oB_some, bC_true, bC_false, vInt_int, vBool_bool, vStr_string, vPtr_pointer, vSl_slice, vMap_map, vFun_func, vAgg_agg, vTup_tuple, vIfc_nil, vIfc_iface, lC_cons, lN_nil, aP_some, shO_none, shO_some, Option.isNone_none, Option.isNone_some, Bool.not_true, Bool.not_false]
    exact hq _ _ _ O6 (W6.fra0 fun c hc => by simp at hc; rcases hc with rfl | rfl <;> assumption)
  | succ d ih =>
    intro k h μ ρ' acc b cap hd hk O W h0 ha
    have hlt : k < s.size := by omega
    have hacc : acc.length ≤ 1000000000 := by
      have := congrArg List.length ha
      simp only [List.length_append] at this
      omega
    rw [List.drop_eq_getElem_cons hlt, List.flatMap_cons] at ha
    refine r_lex_Quote_4 ?_
    rw [ltI hlt, natIdx_eq hlt]
    simp only [oB_some, bC_true, bC_false, vInt_int, vBool_bool, vStr_string, vPtr_pointer, vSl_slice, vMap_map, vFun_func, vAgg_agg, vTup_tuple, vIfc_nil, vIfc_iface, lC_cons, lN_nil, aP_some, shO_none, shO_some, Option.isNone_none, Option.isNone_some, Bool.not_true, Bool.not_false]
    refine oB_bind (bAt_of hlt) ?_
    generalize hc : s.data.toList[k]'hlt = c at ha ⊢
    have cc : ∀ m : UInt8, ((c.toNat : Int) == (m.toNat : Int)) = decide (c = m) := fun m => by
      rw [Bool.eq_iff_iff, beq_iff_eq, decide_eq_true_eq, ← UInt8.toNat_inj]; omega
    have c10 : ((c.toNat : Int) == 10) = decide (c = 10) := cc 10
    have c9 : ((c.toNat : Int) == 9) = decide (c = 9) := cc 9
    have c34 : ((c.toNat : Int) == 34) = decide (c = 34) := cc 34
    have c92 : ((c.toNat : Int) == 92) = decide (c = 92) := cc 92
    have next : ∀ {h : AW} {μ : Paint} {ρ' : Store} {e : List UInt8} {b : Option Nat} {cap : Nat}, Own h μ ρ' → Pcs ρ ρ' [n1, n2, n3, n4] (bldR p (some ⟨p, 0, none⟩) b cap (acc ++ e) []) → escL c = e →
        unitAt P f_lex_Quote 4 [0, 3, 8, 9] [.string s, .pointer (some ⟨p, 0, none⟩), .int .i64 (s.size : Int), .int .i64 (IntKind.wrap .i64 ((k : Int) + 1))] h Q := fun {h μ ρ' e b cap} O W he => by
      rw [wrapS (by omega)]
      refine ih (k + 1) (by omega) (by omega) O W (by simp [h0]) ?_
      rw [← he, List.append_assoc, ← List.append_assoc (escL c)]
      exact ha
    have plain : ∀ {h : AW} {μ : Paint} {ρ' : Store} {e : List UInt8} {b : Option Nat} {cap : Nat}, Own h μ ρ' → Pcs ρ ρ' [n1, n2, n3, n4] (bldR p (some ⟨p, 0, none⟩) b cap (acc ++ e) []) → escL c = e ++ [c] → e.length ≤ 1 →
        unitAt P f_lex_Quote 15 [0, 3, 5, 8, 9] [.string s, .pointer (some ⟨p, 0, none⟩), .int .u8 (c.toNat : Int), .int .i64 (s.size : Int), .int .i64 (k : Int)] h Q := fun {h μ ρ' e b cap} O W he hl => by
      refine r_lex_Quote_15 ?_
      refine wb_ok O W (.inr rfl) c rfl ?_ fun h5 μ5 ρ5 b5 cap5 O5 W5 => ?_
      · have := congrArg List.length ha
        simp only [List.length_append] at this ⊢
        omega
      simp only [oB_some, bC_true, bC_false, vInt_int, vBool_bool, vStr_string, vPtr_pointer, vSl_slice, vMap_map, vFun_func, vAgg_agg, vTup_tuple, vIfc_nil, vIfc_iface, lC_cons, lN_nil, aP_some, shO_none, shO_some, Option.isNone_none, Option.isNone_some, Bool.not_true, Bool.not_false]
      rw [List.append_assoc] at W5
      exact next O5 W5 he
    refine bC_iff (fun e => ?_) (fun e1 => ?_)
    · rw [c10, decide_eq_true_eq] at e
      refine ws_ok O W (.inr rfl) ⟨#[92, 110]⟩ hacc (by decide) fun h5 μ5 ρ5 b5 cap5 O5 W5 => ?_
      simp only [oB_some, bC_true, bC_false, vInt_int, vBool_bool, vStr_string, vPtr_pointer, vSl_slice, vMap_map, vFun_func, vAgg_agg, vTup_tuple, vIfc_nil, vIfc_iface, lC_cons, lN_nil, aP_some, shO_none, shO_some, Option.isNone_none, Option.isNone_some, Bool.not_true, Bool.not_false]
      exact next O5 W5 (by rw [e]; rfl)
    rw [c10, decide_eq_false_iff_not] at e1
    refine bC_iff (fun e => ?_) (fun e2 => ?_)
    · rw [c9, decide_eq_true_eq] at e
      refine ws_ok O W (.inr rfl) ⟨#[92, 116]⟩ hacc (by decide) fun h5 μ5 ρ5 b5 cap5 O5 W5 => ?_
      simp only [oB_some, bC_true, bC_false, vInt_int, vBool_bool, vStr_string, vPtr_pointer, vSl_slice, vMap_map, vFun_func, vAgg_agg, vTup_tuple, vIfc_nil, vIfc_iface, lC_cons, lN_nil, aP_some, shO_none, shO_some, Option.isNone_none, Option.isNone_some, Bool.not_true, Bool.not_false]
      exact next O5 W5 (by rw [e]; rfl)
    rw [c9, decide_eq_false_iff_not] at e2
    have u14 : escL c = [92] ++ [c] → unitAt P f_lex_Quote 14 [0, 3, 5, 8, 9] [.string s, .pointer (some ⟨p, 0, none⟩), .int .u8 (c.toNat : Int), .int .i64 (s.size : Int), .int .i64 (k : Int)] h Q := fun he => by
      refine r_lex_Quote_14 ?_
      refine wb_ok O W (.inr rfl) 92 rfl hacc fun h5 μ5 ρ5 b5 cap5 O5 W5 => ?_
      simp only [oB_some, bC_true, bC_false, vInt_int, vBool_bool, vStr_string, vPtr_pointer, vSl_slice, vMap_map, vFun_func, vAgg_agg, vTup_tuple, vIfc_nil, vIfc_iface, lC_cons, lN_nil, aP_some, shO_none, shO_some, Option.isNone_none, Option.isNone_some, Bool.not_true, Bool.not_false]
      exact plain O5 W5 he (by simp)
    refine bC_iff (fun e => ?_) (fun e3 => ?_)
    · rw [c34, decide_eq_true_eq] at e
      exact u14 (by rw [e]; rfl)
    rw [c34, decide_eq_false_iff_not] at e3
    refine bC_iff (fun e => ?_) (fun e4 => ?_)
    · rw [c92, decide_eq_true_eq] at e
      exact u14 (by rw [e]; rfl)
    rw [c92, decide_eq_false_iff_not] at e4
    have W' : Pcs ρ ρ' [n1, n2, n3, n4] (bldR p (some ⟨p, 0, none⟩) b cap (acc ++ []) []) := by rw [List.append_nil]; exact W
    exact plain O W' (by unfold escL; rw [if_neg e1, if_neg e2, if_neg e3, if_neg e4]; rfl) (by simp)
/-- A new builder. -/
theorem new_bld (O : Own h μ ρ) (W : Pcs ρ0 ρ ns rs) : ∃ μ' ρ' n1 n2 n3 n4, Own ((h.addVar [.pointer none, .slice none 0 0]).tag h.next ty_strings_Builder) μ' ρ' ∧ Pcs ρ0 ρ' (n1 :: n2 :: n3 :: n4 :: ns) (bldR h.next none none 0 [] rs) ∧ ρ0 n1 = none ∧ ρ0 n2 = none ∧ ρ0 n3 = none ∧ ρ0 n4 = none := by
  obtain ⟨μ1, ρ1, c, d, O1, W1, hc, hd⟩ := w_newT O W [.pointer none, .slice none 0 0] ty_strings_Builder
  have W1 := W1.swap2
  obtain ⟨ρ2, e, O2, W2, he⟩ := w_many O1 W1
  obtain ⟨ρ3, f, O3, W3, hf⟩ := w_nil O2 W2 1
  exact ⟨_, _, f, e, c, d, O3, W3, hf, he, hc, hd⟩
theorem quote_ok (O : Own h μ ρ) {s : Str} (hs : s.size ≤ 100000000) (hq : RdQ Q ρ (.string ⟨⟨quoteL s.data.toList⟩⟩)) : EvQ P f_lex_Quote [.string s] h Q := by
  refine r_lex_Quote ?_
  obtain ⟨μ1, ρ1, n1, n2, n3, n4, O1, W1, h1, h2, h3, h4⟩ := new_bld O p00
  refine wb_ok O1 W1 (.inl rfl) 34 rfl (by simp) fun h5 μ5 ρ5 b5 cap5 O5 W5 => ?_
  simp only [oB_some, bC_true, bC_false, vInt_int, vBool_bool, vStr_string, vPtr_pointer, vSl_slice, vMap_map, vFun_func, vAgg_agg, vTup_tuple, vIfc_nil, vIfc_iface, lC_cons, lN_nil, aP_some, shO_none, shO_some, Option.isNone_none, Option.isNone_some, Bool.not_true, Bool.not_false]
  exact quote_4 hs h1 h2 h3 h4 hq _ 0 rfl (Nat.zero_le _) O5 W5 (by simp) rfl
theorem show_ok (O : Own h μ ρ) {s : Str} (hs : s.size ≤ 100000000) (hq : RdQ Q ρ (.string ⟨⟨showL s.data.toList⟩⟩)) : EvQ P f_lex_Show [.string s] h Q := by
  refine r_lex_Show (r_lex_Plain (plain_loop (by omega) ?_ _ 0 rfl (Nat.zero_le _) fun j _ hj => by omega))
  simp only [oB_some, bC_true, bC_false, vInt_int, vBool_bool, vStr_string, vPtr_pointer, vSl_slice, vMap_map, vFun_func, vAgg_agg, vTup_tuple, vIfc_nil, vIfc_iface, lC_cons, lN_nil, aP_some, shO_none, shO_some, Option.isNone_none, Option.isNone_some, Bool.not_true, Bool.not_false]
  unfold showL at hq
  refine bC_iff (fun e => ?_) (fun e => ?_)
  · rw [if_pos e] at hq
    exact hq.now O
  · rw [if_neg (by rw [e]; decide)] at hq
    refine quote_ok O hs fun h1 μ1 ρ1 O1 F1 => ?_
    simp only [oB_some, bC_true, bC_false, vInt_int, vBool_bool, vStr_string, vPtr_pointer, vSl_slice, vMap_map, vFun_func, vAgg_agg, vTup_tuple, vIfc_nil, vIfc_iface, lC_cons, lN_nil, aP_some, shO_none, shO_some, Option.isNone_none, Option.isNone_some, Bool.not_true, Bool.not_false]
    exact hq _ _ _ O1 F1
/-! As said. -/
theorem byt_app (O : Own h μ ρ) (W : Pcs ρ0 ρ ns rs) (i : Nat) {a : Option Addr} {cap n : Nat} {l e : List UInt8} (hi : rs[i]? = some (.sl a cap 1 (ofBytes l))) (hn : n = e.length) (hl : l.length + e.length ≤ 1000000000) {f : Value → AW → Prop}
    (H : ∀ h' μ' ρ' a' cap', Own h' μ' ρ' → Pcs ρ0 ρ' ns (rs.set i (.sl a' cap' 1 (ofBytes (l ++ e)))) → f (.slice a' (l.length + n) cap') h') : oP (appendB P (AW.addVar h (ofBytes e)) ⟨[ty_sl_uint8, ty_sl_uint8]⟩ [.slice a l.length cap, .slice (some ⟨AW.next h, 0, none⟩) n n]) f := by
  subst hn
  obtain ⟨μ2, ρ2, c2, O2, W2, hc2⟩ := w_block O W (ofBytes e) (n := e.length) (sz := 1) (by rw [ofB_len, Nat.mul_one]) (one_bytes _)
  refine w_app (P := P) O2 W2 (i + 1) (n := l.length) (m := e.length) ti_ty_sl_uint8 ti_ty_uint8 (by decide) (by simpa using hi) (by rw [ofB_len, Nat.mul_one]) (w_sl O2 W2 0 rfl) (by rw [ofB_len, Nat.mul_one]) (one_bytes _) (by omega) (by omega) fun a' cap' h3 μ3 ρ3 O3 W3 => ?_
  refine H _ _ _ a' cap' O3 ?_
  have := W3.tail hc2
  rw [ofB_app] at this
  exact this
theorem w_bytes (O : Own h μ ρ) (W : Pcs ρ0 ρ ns rs) (i : Nat) {a : Option Addr} {cap : Nat} {l : List UInt8} (hi : rs[i]? = some (.sl a cap 1 (ofBytes l))) : AW.bytes h a l.length = some ⟨⟨l⟩⟩ := by
  rcases w_sl O W i hi with ⟨rfl, e⟩ | ⟨b, off, rfl, hr⟩
  · have : l = [] := List.eq_nil_of_length_eq_zero (by rw [← ofB_len, e]; rfl)
    subst this
    rfl
  · refine bytes_of l fun j hj => ?_
    rw [hr j (by rw [ofB_len]; exact hj)]
    unfold ofBytes
    rw [List.getElem?_map, List.getElem?_eq_getElem hj]
    rfl
theorem rquote_3 {s : Str} (hs : s.size ≤ 100000000) {n1 : Nat} (h1 : ρ n1 = none) (hq : RdQ Q ρ (.string ⟨⟨quoteL s.data.toList⟩⟩)) :
    ∀ (d k : Nat) {h : AW} {μ : Paint} {ρ' : Store} {acc : List UInt8} {a : Option Addr} {cap : Nat}, s.size - k = d → k ≤ s.size → Own h μ ρ' → Pcs ρ ρ' [n1] [.sl a cap 1 (ofBytes acc)] → acc ++ ((s.data.toList.drop k).flatMap escL ++ [34]) = quoteL s.data.toList →
      unitAt P f_brickyardref11_Quote 3 [0, 3, 4] [.string s, .slice a acc.length cap, .int .i64 (k : Int)] h Q := by
  have hlen : s.data.toList.length = s.size := rfl
  have hql := quote_le s.data.toList
  intro d
  induction d with
  | zero =>
    intro k h μ ρ' acc a cap hd hk O W ha
    have hacc : acc.length ≤ 500000000 := by
      have := congrArg List.length ha
      simp only [List.length_append] at this
      omega
    rw [List.drop_eq_nil_of_le (by omega), List.flatMap_nil, List.nil_append] at ha
    refine r_brickyardref11_Quote_3 ?_
    rw [geI (by omega)]
    simp only [oB_some, bC_true, bC_false, vInt_int, vBool_bool, vStr_string, vPtr_pointer, vSl_slice, vMap_map, vFun_func, vAgg_agg, vTup_tuple, vIfc_nil, vIfc_iface, lC_cons, lN_nil, aP_some, shO_none, shO_some, Option.isNone_none, Option.isNone_some, Bool.not_true, Bool.not_false]
    refine byt_app O W 0 (e := [34]) rfl rfl (by simp; omega) fun h5 μ5 ρ5 a5 cap5 O5 W5 => ?_
    simp only [oB_some, bC_true, bC_false, vInt_int, vBool_bool, vStr_string, vPtr_pointer, vSl_slice, vMap_map, vFun_func, vAgg_agg, vTup_tuple, vIfc_nil, vIfc_iface, lC_cons, lN_nil, aP_some, shO_none, shO_some, Option.isNone_none, Option.isNone_some, Bool.not_true, Bool.not_false]
    rw [ha] at W5
    have hb := w_bytes O5 W5 0 rfl
    rw [← ha, List.length_append] at hb
    refine oB_bind hb ?_
    rw [ha]
    exact hq _ _ _ O5 (W5.fra0 fun c hc => by simp at hc; rw [hc]; exact h1)
  | succ d ih =>
    intro k h μ ρ' acc a cap hd hk O W ha
    have hlt : k < s.size := by omega
    have hacc : acc.length ≤ 500000000 := by
      have := congrArg List.length ha
      simp only [List.length_append] at this
      omega
    rw [List.drop_eq_getElem_cons hlt, List.flatMap_cons] at ha
    have hx := bAt_of hlt
    generalize hc : s.data.toList[k]'hlt = c at ha hx
    have cc : ∀ m : UInt8, ((c.toNat : Int) == (m.toNat : Int)) = decide (c = m) := fun m => by
      rw [Bool.eq_iff_iff, beq_iff_eq, decide_eq_true_eq, ← UInt8.toNat_inj]; omega
    have c10 : ((c.toNat : Int) == 10) = decide (c = 10) := cc 10
    have c9 : ((c.toNat : Int) == 9) = decide (c = 9) := cc 9
    have c34 : ((c.toNat : Int) == 34) = decide (c = 34) := cc 34
    have c92 : ((c.toNat : Int) == 92) = decide (c = 92) := cc 92
    have next : ∀ {h : AW} {μ : Paint} {ρ' : Store} {e : List UInt8} {a : Option Addr} {cap m : Nat}, Own h μ ρ' → Pcs ρ ρ' [n1] [.sl a cap 1 (ofBytes (acc ++ e))] → escL c = e → m = e.length →
        unitAt P f_brickyardref11_Quote 3 [0, 3, 4] [.string s, .slice a (acc.length + m) cap, .int .i64 (IntKind.wrap .i64 ((k : Int) + 1))] h Q := fun {h μ ρ' e a cap m} O W he hm => by
      subst hm
      rw [wrapS (by omega), ← List.length_append]
      refine ih (k + 1) (by omega) (by omega) O W ?_
      rw [← he, List.append_assoc, ← List.append_assoc (escL c)]
      exact ha
    have u9 : escL c = [92, c] → unitAt P f_brickyardref11_Quote 9 [0, 3, 4] [.string s, .slice a acc.length cap, .int .i64 (k : Int)] h Q := fun he => by
      refine r_brickyardref11_Quote_9 ?_
      rw [natIdx_eq hlt]
      simp only [oB_some, bC_true, bC_false, vInt_int, vBool_bool, vStr_string, vPtr_pointer, vSl_slice, vMap_map, vFun_func, vAgg_agg, vTup_tuple, vIfc_nil, vIfc_iface, lC_cons, lN_nil, aP_some, shO_none, shO_some, Option.isNone_none, Option.isNone_some, Bool.not_true, Bool.not_false]
      refine oB_bind hx ?_
      refine byt_app O W 0 (e := [92, c]) rfl rfl (by simp; omega) fun h5 μ5 ρ5 a5 cap5 O5 W5 => ?_
      simp only [oB_some, bC_true, bC_false, vInt_int, vBool_bool, vStr_string, vPtr_pointer, vSl_slice, vMap_map, vFun_func, vAgg_agg, vTup_tuple, vIfc_nil, vIfc_iface, lC_cons, lN_nil, aP_some, shO_none, shO_some, Option.isNone_none, Option.isNone_some, Bool.not_true, Bool.not_false]
      exact next O5 W5 he rfl
    refine r_brickyardref11_Quote_3 ?_
    rw [ltI hlt, natIdx_eq hlt]
    simp only [oB_some, bC_true, bC_false, vInt_int, vBool_bool, vStr_string, vPtr_pointer, vSl_slice, vMap_map, vFun_func, vAgg_agg, vTup_tuple, vIfc_nil, vIfc_iface, lC_cons, lN_nil, aP_some, shO_none, shO_some, Option.isNone_none, Option.isNone_some, Bool.not_true, Bool.not_false]
    refine oB_bind hx ?_
    refine bC_iff (fun e => ?_) (fun e3 => ?_)
    · rw [c34, decide_eq_true_eq] at e
      exact u9 (by rw [e]; rfl)
    rw [c34, decide_eq_false_iff_not] at e3
    refine bC_iff (fun e => ?_) (fun e4 => ?_)
    · rw [c92, decide_eq_true_eq] at e
      exact u9 (by rw [e]; rfl)
    rw [c92, decide_eq_false_iff_not] at e4
    refine r_brickyardref11_Quote_10 ?_
    refine bC_iff (fun e => ?_) (fun e1 => ?_)
    · rw [c10, decide_eq_true_eq] at e
      refine byt_app O W 0 (e := [92, 110]) rfl rfl (by simp; omega) fun h5 μ5 ρ5 a5 cap5 O5 W5 => ?_
      simp only [oB_some, bC_true, bC_false, vInt_int, vBool_bool, vStr_string, vPtr_pointer, vSl_slice, vMap_map, vFun_func, vAgg_agg, vTup_tuple, vIfc_nil, vIfc_iface, lC_cons, lN_nil, aP_some, shO_none, shO_some, Option.isNone_none, Option.isNone_some, Bool.not_true, Bool.not_false]
      exact next O5 W5 (by rw [e]; rfl) rfl
    rw [c10, decide_eq_false_iff_not] at e1
    refine bC_iff (fun e => ?_) (fun e2 => ?_)
    · rw [c9, decide_eq_true_eq] at e
      refine byt_app O W 0 (e := [92, 116]) rfl rfl (by simp; omega) fun h5 μ5 ρ5 a5 cap5 O5 W5 => ?_
      simp only [oB_some, bC_true, bC_false, vInt_int, vBool_bool, vStr_string, vPtr_pointer, vSl_slice, vMap_map, vFun_func, vAgg_agg, vTup_tuple, vIfc_nil, vIfc_iface, lC_cons, lN_nil, aP_some, shO_none, shO_some, Option.isNone_none, Option.isNone_some, Bool.not_true, Bool.not_false]
      exact next O5 W5 (by rw [e]; rfl) rfl
    rw [c9, decide_eq_false_iff_not] at e2
    rw [natIdx_eq hlt]
    simp only [oB_some, bC_true, bC_false, vInt_int, vBool_bool, vStr_string, vPtr_pointer, vSl_slice, vMap_map, vFun_func, vAgg_agg, vTup_tuple, vIfc_nil, vIfc_iface, lC_cons, lN_nil, aP_some, shO_none, shO_some, Option.isNone_none, Option.isNone_some, Bool.not_true, Bool.not_false]
    refine oB_bind hx ?_
    refine byt_app O W 0 (e := [c]) rfl rfl (by simp; omega) fun h5 μ5 ρ5 a5 cap5 O5 W5 => ?_
    simp only [oB_some, bC_true, bC_false, vInt_int, vBool_bool, vStr_string, vPtr_pointer, vSl_slice, vMap_map, vFun_func, vAgg_agg, vTup_tuple, vIfc_nil, vIfc_iface, lC_cons, lN_nil, aP_some, shO_none, shO_some, Option.isNone_none, Option.isNone_some, Bool.not_true, Bool.not_false]
    exact next O5 W5 (by unfold escL; rw [if_neg e1, if_neg e2, if_neg e3, if_neg e4]) rfl
theorem rquote_ok (O : Own h μ ρ) {s : Str} (hs : s.size ≤ 100000000) (hq : RdQ Q ρ (.string ⟨⟨quoteL s.data.toList⟩⟩)) : EvQ P f_brickyardref11_Quote [.string s] h Q := by
  refine r_brickyardref11_Quote ?_
  obtain ⟨μ2, ρ2, c2, O2, W2, hc2⟩ := w_block O p00 (ofBytes [34]) (n := 1) (sz := 1) rfl rfl
  exact rquote_3 hs hc2 hq _ 0 (acc := [34]) rfl (Nat.zero_le _) O2 W2 rfl
theorem rshow_ok (O : Own h μ ρ) {s : Str} (hs : s.size ≤ 100000000) (hq : RdQ Q ρ (.string ⟨⟨showL s.data.toList⟩⟩)) : EvQ P f_brickyardref11_Show [.string s] h Q := by
  refine r_brickyardref11_Show (r_brickyardref11_Plain (rplain_loop (by omega) ?_ _ 0 rfl (Nat.zero_le _) fun j _ hj => by omega))
  simp only [oB_some, bC_true, bC_false, vInt_int, vBool_bool, vStr_string, vPtr_pointer, vSl_slice, vMap_map, vFun_func, vAgg_agg, vTup_tuple, vIfc_nil, vIfc_iface, lC_cons, lN_nil, aP_some, shO_none, shO_some, Option.isNone_none, Option.isNone_some, Bool.not_true, Bool.not_false]
  unfold showL at hq
  refine bC_iff (fun e => ?_) (fun e => ?_)
  · rw [if_pos e] at hq
    exact hq.now O
  · rw [if_neg (by rw [e]; decide)] at hq
    refine rquote_ok O hs fun h1 μ1 ρ1 O1 F1 => ?_
    simp only [oB_some, bC_true, bC_false, vInt_int, vBool_bool, vStr_string, vPtr_pointer, vSl_slice, vMap_map, vFun_func, vAgg_agg, vTup_tuple, vIfc_nil, vIfc_iface, lC_cons, lN_nil, aP_some, shO_none, shO_some, Option.isNone_none, Option.isNone_some, Bool.not_true, Bool.not_false]
    exact hq _ _ _ O1 F1
end Go.Proofs.YtamoepfiodgbbaaGreatDoor
end

section
/- The same lines; an action's text. -/
namespace Go.Proofs.YtamoepfiodgbbaaGreatDoor
open Go.Abs Go.Abs.Fo
set_option maxRecDepth 100000
attribute [local irreducible] unitAt EvQ
variable {h : AW} {μ : Paint} {ρ ρ' : Store} {Q : Value → AW → Prop}
theorem oP_bind {x : Option (Value × AW)} {v : Value} {h' : AW} {f : Value → AW → Prop} (e : x = some (v, h')) (H : f v h') : oP x f := by rw [e]; exact H
/-! As text. -/
/-- Lines that are not too great for a text. -/
structure Txt (ps : List Wds) : Prop where
  len : ps.length ≤ 1000000
  wds : ∀ p, p ∈ ps → p.x.length ≤ 20000000
  str : ∀ p, p ∈ ps → ∀ s, s ∈ p.x → s.size ≤ 20000000
  all : (prL (ps.map Wds.x)).length ≤ 100000000
theorem jn_drop {x : List Str} {k : Nat} (hk : k < x.length) : jn (decide (k = 0)) (x.drop k) = (if k = 0 then [] else [32]) ++ (showL (x[k]).data.toList ++ jn false (x.drop (k + 1))) := by
  rw [List.drop_eq_getElem_cons hk, jn]
  by_cases h : k = 0 <;> simp [h]
end Go.Proofs.YtamoepfiodgbbaaGreatDoor
end

section
/- An action's text, as made. -/
namespace Go.Proofs.YtamoepfiodgbbaaGreatDoor
open Go.Abs Go.Abs.Fo
set_option maxRecDepth 100000
attribute [local irreducible] unitAt EvQ
variable {h : AW} {μ : Paint} {ρ ρ' : Store} {Q : Value → AW → Prop}
theorem fra4 {n1 n2 n3 n4 : Nat} {rs : List Res} (h1 : ρ n1 = none) (h2 : ρ n2 = none) (h3 : ρ n3 = none) (h4 : ρ n4 = none) (W : Pcs ρ ρ' [n1, n2, n3, n4] rs) : Fra [] ρ ρ' := W.fra0 fun c hc => by
  simp only [List.mem_cons, List.not_mem_nil, or_false] at hc
  rcases hc with rfl | rfl | rfl | rfl <;> assumption
/-- The words of a line are written. -/
theorem aprint_9 {ps : List Wds} {a : Option Addr} {cap p n1 n2 n3 n4 : Nat} (X : Lns ρ ps a) (B : Txt ps) (h1 : ρ n1 = none) (h2 : ρ n2 = none) (h3 : ρ n3 = none) (h4 : ρ n4 = none) {i : Nat} (hi : i < ps.length) {fin : List UInt8} (hfin : fin.length ≤ 100000000)
    (next : ∀ {h : AW} {μ : Paint} {ρ' : Store} {acc : List UInt8} {b : Option Nat} {bc : Nat} {u : Option Addr}, Own h μ ρ' → Pcs ρ ρ' [n1, n2, n3, n4] (bldR p u b bc acc []) → (u = none ∨ u = some ⟨p, 0, none⟩) → acc ≠ [] → acc ++ prL ((ps.drop (i + 1)).map Wds.x) = fin →
      unitAt P f_action_Print 6 [6, 19, 20, 21] [.pointer (some ⟨p, 0, none⟩), .slice a ps.length cap, .int .i64 (ps.length : Int), .int .i64 ((i + 1 : Nat) : Int)] h Q) :
    ∀ (d k : Nat) {h : AW} {μ : Paint} {ρ' : Store} {acc : List UInt8} {b : Option Nat} {bc : Nat} {u : Option Addr}, ps[i].x.length - k = d → k ≤ ps[i].x.length → Own h μ ρ' → Pcs ρ ρ' [n1, n2, n3, n4] (bldR p u b bc acc []) → (u = none ∨ u = some ⟨p, 0, none⟩) → acc ++ (jn (decide (k = 0)) (ps[i].x.drop k) ++ [10] ++ prL ((ps.drop (i + 1)).map Wds.x)) = fin →
      unitAt P f_action_Print 9 [6, 19, 20, 21, 25, 26, 27] [.pointer (some ⟨p, 0, none⟩), .slice a ps.length cap, .int .i64 (ps.length : Int), .int .i64 (i : Int), .slice ps[i].a ps[i].x.length ps[i].cap, .int .i64 (ps[i].x.length : Int), .int .i64 (k : Int)] h Q := by
  have hil := B.len
  have hwl := B.wds _ (List.getElem_mem hi)
  have V := X.each _ (List.getElem_mem hi)
  intro d
  induction d with
  | zero =>
    intro k h μ ρ' acc b bc u hd hk O W hu ha
    have hacc : acc.length ≤ 100000000 := by
      have := congrArg List.length ha
      simp only [List.length_append] at this
      omega
    rw [List.drop_eq_nil_of_le (by omega), jn, List.nil_append, ← List.append_assoc] at ha
    refine r_action_Print_9 ?_
    rw [show decide ((k : Int) < (ps[i].x.length : Int)) = false from decide_eq_false (by omega)]
    simp only [oB_some, bC_true, bC_false, vInt_int, vBool_bool, vStr_string, vPtr_pointer, vSl_slice, vMap_map, vFun_func, vAgg_agg, vTup_tuple, vIfc_nil, vIfc_iface, lC_cons, lN_nil, aP_some, shO_none, shO_some, Option.isNone_none, Option.isNone_some, Bool.not_true, Bool.not_false]
    refine wb_ok O W hu 10 rfl (by omega) fun h5 μ5 ρ5 b5 cap5 O5 W5 => ?_
    simp only [oB_some, bC_true, bC_false, vInt_int, vBool_bool, vStr_string, vPtr_pointer, vSl_slice, vMap_map, vFun_func, vAgg_agg, vTup_tuple, vIfc_nil, vIfc_iface, lC_cons, lN_nil, aP_some, shO_none, shO_some, Option.isNone_none, Option.isNone_some, Bool.not_true, Bool.not_false]
    rw [wrapS (by omega)]
    exact next O5 W5 (.inr rfl) (by simp) ha
  | succ d ih =>
    intro k h μ ρ' acc b bc u hd hk O W hu ha
    have hk1 : k < ps[i].x.length := by omega
    have F := fra4 h1 h2 h3 h4 W
    have hacc : acc.length ≤ 100000000 := by
      have := congrArg List.length ha
      simp only [List.length_append] at this
      omega
    have hsz := B.str _ (List.getElem_mem hi) _ (List.getElem_mem hk1)
    have hsh := show_len (ps[i].x[k]).data.toList
    have hs0 : (ps[i].x[k]).data.toList.length = (ps[i].x[k]).size := rfl
    have e0 : decide (k + 1 = 0) = false := by simp
    have u13 : ∀ {h : AW} {μ : Paint} {ρ' : Store} {acc : List UInt8} {b : Option Nat} {bc : Nat} {u : Option Addr}, Own h μ ρ' → Pcs ρ ρ' [n1, n2, n3, n4] (bldR p u b bc acc []) → (u = none ∨ u = some ⟨p, 0, none⟩) → acc ++ (showL (ps[i].x[k]).data.toList ++ jn false (ps[i].x.drop (k + 1)) ++ [10] ++ prL ((ps.drop (i + 1)).map Wds.x)) = fin →
        unitAt P f_action_Print 13 [6, 10, 19, 20, 21, 25, 26, 27] [.pointer (some ⟨p, 0, none⟩), .string ps[i].x[k], .slice a ps.length cap, .int .i64 (ps.length : Int), .int .i64 (i : Int), .slice ps[i].a ps[i].x.length ps[i].cap, .int .i64 (ps[i].x.length : Int), .int .i64 (k : Int)] h Q := fun {h μ ρ' acc b bc u} O W hu ha => by
      have hacc : acc.length ≤ 100000000 := by
        have := congrArg List.length ha
        simp only [List.length_append] at this
        omega
      refine r_action_Print_13 ?_
      refine show_ok O (by omega) fun h2 μ2 ρ2 O2 F2 => ?_
      have W2 := W.keep0 F2
      simp only [oB_some, bC_true, bC_false, vInt_int, vBool_bool, vStr_string, vPtr_pointer, vSl_slice, vMap_map, vFun_func, vAgg_agg, vTup_tuple, vIfc_nil, vIfc_iface, lC_cons, lN_nil, aP_some, shO_none, shO_some, Option.isNone_none, Option.isNone_some, Bool.not_true, Bool.not_false]
      have hsize : (⟨⟨showL (ps[i].x[k]).data.toList⟩⟩ : ByteArray).size = (showL (ps[i].x[k]).data.toList).length := rfl
      refine ws_ok O2 W2 hu ⟨⟨showL (ps[i].x[k]).data.toList⟩⟩ (by omega) (by rw [hsize]; omega) fun h5 μ5 ρ5 b5 cap5 O5 W5 => ?_
      simp only [oB_some, bC_true, bC_false, vInt_int, vBool_bool, vStr_string, vPtr_pointer, vSl_slice, vMap_map, vFun_func, vAgg_agg, vTup_tuple, vIfc_nil, vIfc_iface, lC_cons, lN_nil, aP_some, shO_none, shO_some, Option.isNone_none, Option.isNone_some, Bool.not_true, Bool.not_false]
      rw [wrapS (by omega)]
      refine ih (k + 1) (by omega) (by omega) O5 W5 (.inr rfl) ?_
      rw [e0, ← ha]
      simp only [List.append_assoc]
    rw [jn_drop hk1] at ha
    refine r_action_Print_9 ?_
    rw [show decide ((k : Int) < (ps[i].x.length : Int)) = true from decide_eq_true (by omega)]
    simp only [oB_some, bC_true, bC_false, vInt_int, vBool_bool, vStr_string, vPtr_pointer, vSl_slice, vMap_map, vFun_func, vAgg_agg, vTup_tuple, vIfc_nil, vIfc_iface, lC_cons, lN_nil, aP_some, shO_none, shO_some, Option.isNone_none, Option.isNone_some, Bool.not_true, Bool.not_false]
    refine wd_at O (V.keep F) rfl rfl hk1 ?_
    refine bC_iff (fun e => ?_) (fun e => ?_)
    · have e : k ≠ 0 := by have := of_decide_eq_true e; omega
      rw [if_neg e] at ha
      refine wb_ok O W hu 32 rfl (by omega) fun h5 μ5 ρ5 b5 cap5 O5 W5 => ?_
      simp only [oB_some, bC_true, bC_false, vInt_int, vBool_bool, vStr_string, vPtr_pointer, vSl_slice, vMap_map, vFun_func, vAgg_agg, vTup_tuple, vIfc_nil, vIfc_iface, lC_cons, lN_nil, aP_some, shO_none, shO_some, Option.isNone_none, Option.isNone_some, Bool.not_true, Bool.not_false]
      exact u13 O5 W5 (.inr rfl) (by rw [← ha]; simp only [List.append_assoc])
    · have e : k = 0 := by have := of_decide_eq_false e; omega
      rw [if_pos e, List.nil_append] at ha
      exact u13 O W hu ha
theorem aprint_6 {ps : List Wds} {a : Option Addr} {cap p n1 n2 n3 n4 : Nat} (X : Lns ρ ps a) (B : Txt ps) (h1 : ρ n1 = none) (h2 : ρ n2 = none) (h3 : ρ n3 = none) (h4 : ρ n4 = none) (hq : RdQ Q ρ (.tuple ⟨[.string ⟨⟨prL (ps.map Wds.x)⟩⟩, .int .i64 0]⟩)) :
    ∀ (d i : Nat) {h : AW} {μ : Paint} {ρ' : Store} {acc : List UInt8} {b : Option Nat} {bc : Nat} {u : Option Addr}, ps.length - i = d → i ≤ ps.length → Own h μ ρ' → Pcs ρ ρ' [n1, n2, n3, n4] (bldR p u b bc acc []) → (u = none ∨ u = some ⟨p, 0, none⟩) → (acc = [] → b = none) → acc ++ prL ((ps.drop i).map Wds.x) = prL (ps.map Wds.x) →
      unitAt P f_action_Print 6 [6, 19, 20, 21] [.pointer (some ⟨p, 0, none⟩), .slice a ps.length cap, .int .i64 (ps.length : Int), .int .i64 (i : Int)] h Q := by
  have hil := B.len
  have hall := B.all
  intro d
  induction d with
  | zero =>
    intro i h μ ρ' acc b bc u hd hi O W hu hb ha
    rw [List.drop_eq_nil_of_le (by omega)] at ha
    have ha : acc = prL (ps.map Wds.x) := by simpa [prL] using ha
    refine r_action_Print_6 ?_
    rw [geI (by omega)]
    simp only [oB_some, bC_true, bC_false, vInt_int, vBool_bool, vStr_string, vPtr_pointer, vSl_slice, vMap_map, vFun_func, vAgg_agg, vTup_tuple, vIfc_nil, vIfc_iface, lC_cons, lN_nil, aP_some, shO_none, shO_some, Option.isNone_none, Option.isNone_some, Bool.not_true, Bool.not_false]
    refine bs_ok O W h1 h2 (by rw [ha]; omega) hb fun h5 ρ5 O5 W5 => ?_
    simp only [oB_some, bC_true, bC_false, vInt_int, vBool_bool, vStr_string, vPtr_pointer, vSl_slice, vMap_map, vFun_func, vAgg_agg, vTup_tuple, vIfc_nil, vIfc_iface, lC_cons, lN_nil, aP_some, shO_none, shO_some, Option.isNone_none, Option.isNone_some, Bool.not_true, Bool.not_false]
    rw [ha]
    exact hq _ _ _ O5 (W5.fra0 fun c hc => by simp at hc; rcases hc with rfl | rfl <;> assumption)
  | succ d ih =>
    intro i h μ ρ' acc b bc u hd hi O W hu hb ha
    have hl : i < ps.length := by omega
    have F := fra4 h1 h2 h3 h4 W
    rw [List.drop_eq_getElem_cons hl, List.map_cons, prL, List.flatMap_cons] at ha
    refine r_action_Print_6 ?_
    rw [ltI hl]
    simp only [oB_some, bC_true, bC_false, vInt_int, vBool_bool, vStr_string, vPtr_pointer, vSl_slice, vMap_map, vFun_func, vAgg_agg, vTup_tuple, vIfc_nil, vIfc_iface, lC_cons, lN_nil, aP_some, shO_none, shO_some, Option.isNone_none, Option.isNone_some, Bool.not_true, Bool.not_false]
    refine ln_at O (X.keep F) rfl rfl hl fun _ => ?_
    exact aprint_9 X B h1 h2 h3 h4 hl (fin := prL (ps.map Wds.x)) (by omega) (fun O' W' hu' h0 ha' => ih (i + 1) (by omega) (by omega) O' W' hu' (fun e => absurd e h0) ha') _ 0 rfl (Nat.zero_le _) O W hu (by rw [decide_eq_true rfl, List.drop_zero]; exact ha)
theorem word_len (op : Int) : (wordM op).size ≤ 6 := by
  unfold wordM
  cases op with
  | negSucc _ => exact Nat.zero_le _
  | ofNat n =>
    show ((kinds[n]?).getD e0).size ≤ 6
    by_cases hn : n < 13
    · have : ∀ k : Fin 13, ((kinds[k.1]?).getD e0).size ≤ 6 := by decide
      exact this ⟨n, hn⟩
    · rw [List.getElem?_eq_none (show kinds.length ≤ n by simp [kinds]; omega)]
      exact Nat.zero_le _
/-- The lines of what is no great thing are no great text. -/
theorem lines_sum : ∀ f : F, (f.lines.map fun l => 1 + (l.map fun s => 1 + s.size).sum).sum ≤ 40 * full f
  | .nil => by simp [F.lines]
  | .cons op args kk b r => by
    have hb := lines_sum b
    have hr := lines_sum r
    have hw := word_len op
    have hd : (digS kk.toNat).size ≤ 21 := digits_len 20 kk.toNat
    have he : wEnd.size = 3 := by decide
    simp only [F.lines, full, List.map_cons, List.map_append, List.sum_cons, List.sum_append, lineM]
    split <;> split <;> simp only [List.map_cons, List.map_nil, List.map_append, List.sum_cons, List.sum_nil, List.sum_append, Nat.add_zero, he] <;> omega
/-- What is laid down is no great text. -/
theorem txt_of {f : F} {ps : List Wds} (e : ps.map Wds.x = f.lines) (hf : full f ≤ 262143) : Txt ps := by
  have h := lines_sum f
  rw [← e] at h
  have h' : ((ps.map Wds.x).map fun l : List Str => 1 + (l.map fun s => 1 + s.size).sum).sum ≤ 10485720 := by
    have : 40 * full f ≤ 10485720 := by omega
    exact Nat.le_trans h this
  have hs : ∀ p, p ∈ ps → 1 + (p.x.map fun s => 1 + s.size).sum ≤ 10485720 := fun p hp => by
    have := sum_mem (List.mem_map_of_mem (f := fun l : List Str => 1 + (l.map fun s => 1 + s.size).sum) (List.mem_map_of_mem (f := Wds.x) hp))
    exact Nat.le_trans this h'
  refine ⟨?_, fun p hp => ?_, fun p hp s hx => ?_, ?_⟩
  · have h1 := F.lines_len f
    have h2 := F.size_full f
    have := congrArg List.length e
    rw [List.length_map] at this
    omega
  · have h1 := hs p hp
    have h2 := sum_len (l := p.x.map fun s => 1 + s.size) (by intro a ha; obtain ⟨l, _, rfl⟩ := List.mem_map.1 ha; omega)
    rw [List.length_map] at h2
    omega
  · have h1 := hs p hp
    have h2 := sum_mem (List.mem_map_of_mem (f := fun s : Str => 1 + s.size) hx)
    omega
  · exact Nat.le_trans (prL_len _) (Nat.le_trans (Nat.mul_le_mul_left 3 h') (by decide))
end Go.Proofs.YtamoepfiodgbbaaGreatDoor
end

section
/- Bytes of a length; a builder that grows; words joined by a blank. -/
namespace Go.Proofs.YtamoepfiodgbbaaGreatDoor
open Go.Abs Go.Abs.Fo
set_option maxRecDepth 100000
attribute [local irreducible] unitAt EvQ
variable {h : AW} {μ : Paint} {ρ0 ρ : Store} {Q : Value → AW → Prop} {ns : List Nat} {rs : List Res}
theorem mnz_fn : mnzFn P f_bytealg_MakeNoZero = some ty_uint8 := by kernel_rfl
theorem mnz_body : bodyOf P f_bytealg_MakeNoZero = none := by kernel_rfl
/-- Room for so many bytes. -/
theorem mnz_ok (O : Own h μ ρ) (W : Pcs ρ0 ρ ns rs) {n : Nat} (hn : n ≤ 281474976710656)
    (hq : ∀ h' μ' ρ' c d i, Own h' μ' ρ' → Pcs ρ0 ρ' (c :: d :: ns) (.sl (some ⟨i, 0, none⟩) 0 1 [] :: .ty i ty_uint8 :: rs) → ρ0 c = none → ρ0 d = none → Q (.slice (some ⟨i, 0, none⟩) n 0) h') : EvQ P f_bytealg_MakeNoZero [.int .i64 (n : Int)] h Q := by
  obtain ⟨c, hc⟩ := O.fresh
  obtain ⟨h1, e1, M1, C1⟩ := newRow_ok (h := h) (μ := μ) (c := c) (S := (· = c)) (new := []) (n := 0) (sz := 1) rfl rfl
  have O1 := O.step (r := .sl (some ⟨h.next, 0, none⟩) 0 1 []) (Chg.tag (t := ty_uint8) C1 (Nat.le_refl _)) (OM.tag M1)
  have W1 := W.new hc (.sl (some ⟨h.next, 0, none⟩) 0 1 [])
  obtain ⟨d, hd⟩ := O1.fresh
  have O2 := O1.step (c := d) (r := .ty h.next ty_uint8) Chg.refl ⟨show h.next < h1.next from newRow_next e1, T.get?_set_same _ _ _⟩
  have W2 := (W1.new hd (.ty h.next ty_uint8)).swap2
  have hd0 := W1.not0 hd
  unfold EvQ
  refine ⟨_, _, ⟨1, ?_⟩, hq _ _ _ c d h.next O2 W2 (W.not0 hc) hd0⟩
  unfold callF
  rw [mnz_body]
  simp only
  unfold noBodyV
  simp only
  unfold sameV
  rw [show ((n : Nat) : Int) = Int.ofNat n from rfl]
  simp only
  rw [mnz_fn, Nat.ble_eq_true_of_le hn, e1]
theorem cap_nil {h : AW} : capB P h ⟨[ty_sl_uint8]⟩ [.slice none 0 0] = some (.int .i64 0) := by
  unfold capB
  simp only
  rw [ti_ty_sl_uint8]
  rfl
theorem copy_nil {h : AW} {i : Nat} : copyB P h ⟨[ty_sl_uint8, ty_sl_uint8]⟩ [.slice (some ⟨i, 0, none⟩) 0 0, .slice none 0 0] = some (.int .i64 0, h) := by
  unfold copyB
  simp only
  rw [ti_ty_sl_uint8]
  simp only
  rw [ti_ty_uint8]
  rfl
/-- A new builder gets its room. -/
theorem grow_ok (O : Own h μ ρ) {p n n1 n2 : Nat} {u : Option Addr} (W : Pcs ρ0 ρ (n1 :: n2 :: ns) (bldR p u none 0 [] rs)) (h1 : ρ0 n1 = none) (h2 : ρ0 n2 = none) (hu : u = none ∨ u = some ⟨p, 0, none⟩) (h0 : 0 < n) (hn : n ≤ 1000000000)
    (hq : ∀ h' μ' ρ' m1 m2 b, Own h' μ' ρ' → Pcs ρ0 ρ' (m1 :: m2 :: ns) (bldR p (some ⟨p, 0, none⟩) (some b) 0 [] rs) → ρ0 m1 = none → ρ0 m2 = none → Q (.tuple ⟨[]⟩) h') : EvQ P f_p_strings_Builder_Grow [.pointer (some ⟨p, 0, none⟩), .int .i64 (n : Int)] h Q := by
  refine r_p_strings_Builder_Grow ?_
  refine cc_ok O W hu fun h3 μ3 ρ3 O3 W3 => ?_
  rw [show decide ((n : Int) < 0) = false from decide_eq_false (by omega)]
  simp only [oB_some, bC_true, bC_false, vInt_int, vBool_bool, vStr_string, vPtr_pointer, vSl_slice, vMap_map, vFun_func, vAgg_agg, vTup_tuple, vIfc_nil, vIfc_iface, lC_cons, lN_nil, aP_some, shO_none, shO_some, Option.isNone_none, Option.isNone_some, Bool.not_true, Bool.not_false]
  refine r_p_strings_Builder_Grow_3 ?_
  have W4 : Pcs ρ0 ρ3 ns (.var p [.pointer (some ⟨p, 0, none⟩), .slice none 0 0] :: .ty p ty_strings_Builder :: rs) := (Pcs.tail W3 h1).tail h2
  simp only [aP_some]
  refine w_rd O3 W4 0 (j := 1) rfl rfl ?_
  simp only [oB_some, bC_true, bC_false, vInt_int, vBool_bool, vStr_string, vPtr_pointer, vSl_slice, vMap_map, vFun_func, vAgg_agg, vTup_tuple, vIfc_nil, vIfc_iface, lC_cons, lN_nil, aP_some, shO_none, shO_some, Option.isNone_none, Option.isNone_some, Bool.not_true, Bool.not_false]
  refine oB_bind cap_nil ?_
  simp only [oB_some, bC_true, bC_false, vInt_int, vBool_bool, vStr_string, vPtr_pointer, vSl_slice, vMap_map, vFun_func, vAgg_agg, vTup_tuple, vIfc_nil, vIfc_iface, lC_cons, lN_nil, aP_some, shO_none, shO_some, Option.isNone_none, Option.isNone_some, Bool.not_true, Bool.not_false]
  refine w_rd O3 W4 0 (j := 1) rfl rfl ?_
  simp only [oB_some, bC_true, bC_false, vInt_int, vBool_bool, vStr_string, vPtr_pointer, vSl_slice, vMap_map, vFun_func, vAgg_agg, vTup_tuple, vIfc_nil, vIfc_iface, lC_cons, lN_nil, aP_some, shO_none, shO_some, Option.isNone_none, Option.isNone_some, Bool.not_true, Bool.not_false]
  rw [show IntKind.wrap .i64 (0 - ((0 : Nat) : Int)) = 0 from by decide, show decide ((0 : Int) < (n : Int)) = true from decide_eq_true (by omega)]
  simp only [oB_some, bC_true, bC_false, vInt_int, vBool_bool, vStr_string, vPtr_pointer, vSl_slice, vMap_map, vFun_func, vAgg_agg, vTup_tuple, vIfc_nil, vIfc_iface, lC_cons, lN_nil, aP_some, shO_none, shO_some, Option.isNone_none, Option.isNone_some, Bool.not_true, Bool.not_false]
  refine r_p_strings_Builder_grow ?_
  simp only [aP_some]
  refine w_rd O3 W4 0 (j := 1) rfl rfl ?_
  simp only [oB_some, bC_true, bC_false, vInt_int, vBool_bool, vStr_string, vPtr_pointer, vSl_slice, vMap_map, vFun_func, vAgg_agg, vTup_tuple, vIfc_nil, vIfc_iface, lC_cons, lN_nil, aP_some, shO_none, shO_some, Option.isNone_none, Option.isNone_some, Bool.not_true, Bool.not_false]
  refine oB_bind cap_nil ?_
  simp only [oB_some, bC_true, bC_false, vInt_int, vBool_bool, vStr_string, vPtr_pointer, vSl_slice, vMap_map, vFun_func, vAgg_agg, vTup_tuple, vIfc_nil, vIfc_iface, lC_cons, lN_nil, aP_some, shO_none, shO_some, Option.isNone_none, Option.isNone_some, Bool.not_true, Bool.not_false]
  rw [show IntKind.wrap .i64 (2 * 0) = 0 from by decide, Int.zero_add, wrap_small (n := (n : Int)) (by omega) (by omega)]
  refine mnz_ok O3 W4 (by omega) fun h5 μ5 ρ5 c d i O5 W5 hc hd => ?_
  simp only [oB_some, bC_true, bC_false, vInt_int, vBool_bool, vStr_string, vPtr_pointer, vSl_slice, vMap_map, vFun_func, vAgg_agg, vTup_tuple, vIfc_nil, vIfc_iface, lC_cons, lN_nil, aP_some, shO_none, shO_some, Option.isNone_none, Option.isNone_some, Bool.not_true, Bool.not_false]
  refine w_rd O5 W5 2 (j := 1) rfl rfl ?_
  simp only [oB_some, bC_true, bC_false, vInt_int, vBool_bool, vStr_string, vPtr_pointer, vSl_slice, vMap_map, vFun_func, vAgg_agg, vTup_tuple, vIfc_nil, vIfc_iface, lC_cons, lN_nil, aP_some, shO_none, shO_some, Option.isNone_none, Option.isNone_some, Bool.not_true, Bool.not_false]
  refine oB_bind (v := 0) rfl ?_
  rw [show Nat.ble 0 0 = true from rfl]
  simp only [oB_some, bC_true, bC_false, vInt_int, vBool_bool, vStr_string, vPtr_pointer, vSl_slice, vMap_map, vFun_func, vAgg_agg, vTup_tuple, vIfc_nil, vIfc_iface, lC_cons, lN_nil, aP_some, shO_none, shO_some, Option.isNone_none, Option.isNone_some, Bool.not_true, Bool.not_false]
  refine w_rd O3 W4 0 (j := 1) rfl rfl ?_
  simp only [oB_some, bC_true, bC_false, vInt_int, vBool_bool, vStr_string, vPtr_pointer, vSl_slice, vMap_map, vFun_func, vAgg_agg, vTup_tuple, vIfc_nil, vIfc_iface, lC_cons, lN_nil, aP_some, shO_none, shO_some, Option.isNone_none, Option.isNone_some, Bool.not_true, Bool.not_false]
  refine ⟨trivial, trivial, ?_⟩
  refine w_rd O5 W5 2 (j := 1) rfl rfl ?_
  simp only [oB_some, bC_true, bC_false, vInt_int, vBool_bool, vStr_string, vPtr_pointer, vSl_slice, vMap_map, vFun_func, vAgg_agg, vTup_tuple, vIfc_nil, vIfc_iface, lC_cons, lN_nil, aP_some, shO_none, shO_some, Option.isNone_none, Option.isNone_some, Bool.not_true, Bool.not_false]
  refine oP_bind copy_nil ?_
  simp only [oB_some, bC_true, bC_false, vInt_int, vBool_bool, vStr_string, vPtr_pointer, vSl_slice, vMap_map, vFun_func, vAgg_agg, vTup_tuple, vIfc_nil, vIfc_iface, lC_cons, lN_nil, aP_some, shO_none, shO_some, Option.isNone_none, Option.isNone_some, Bool.not_true, Bool.not_false]
  refine w_wr O5 W5 2 (j := 1) rfl (Nat.le_of_ble_eq_true rfl) rfl fun h6 ρ6 O6 W6 => ?_
  exact hq _ _ _ c d i O6 W6 hc hd
def joinL : List Str → List UInt8
  | [] => []
  | w :: ws => w.data.toList ++ sp (ws.map fun s => s.data.toList)
def tot (ws : List Str) : Nat := (ws.map fun s => 1 + s.size).sum
theorem join_len : ∀ ws : List Str, (joinL ws).length ≤ tot ws
  | [] => Nat.le_refl _
  | w :: ws => by
    have : ∀ ws : List Str, (sp (ws.map fun s => s.data.toList)).length = tot ws := by
      intro ws
      induction ws with
      | nil => rfl
      | cons v ws ih =>
        show (32 :: v.data.toList ++ sp (ws.map fun s => s.data.toList)).length = _
        have hv : v.data.toList.length = v.size := rfl
        have : tot (v :: ws) = (1 + v.size) + tot ws := by unfold tot; rw [List.map_cons, List.sum_cons]
        rw [List.cons_append, List.length_cons, List.length_append, ih, this]
        omega
    have hw : w.data.toList.length = w.size := rfl
    have h2 : tot (w :: ws) = (1 + w.size) + tot ws := by unfold tot; rw [List.map_cons, List.sum_cons]
    rw [joinL, List.length_append, this, h2]
    omega
theorem tot_drop {ws : List Str} {k : Nat} (hk : k < ws.length) : tot (ws.drop k) = 1 + ws[k].size + tot (ws.drop (k + 1)) := by
  unfold tot
  rw [List.drop_eq_getElem_cons hk, List.map_cons, List.sum_cons]
theorem sp_drop {ws : List Str} {k : Nat} (hk : k < ws.length) : sp ((ws.drop k).map fun s => s.data.toList) = 32 :: (ws[k].data.toList ++ sp ((ws.drop (k + 1)).map fun s => s.data.toList)) := by
  rw [List.drop_eq_getElem_cons hk, List.map_cons]
  rfl
theorem join_22 {ts : List Str} {a : Option Addr} {cap p n1 n2 n3 n4 : Nat} {fin : List UInt8} (X : Vw ρ [] a (strs ts)) (hts : ts.length ≤ 1000000000) (hb : fin.length ≤ 1000000000) (h1 : ρ n1 = none) (h2 : ρ n2 = none) (h3 : ρ n3 = none) (h4 : ρ n4 = none) (hf : fin ≠ []) (hq : RdQ Q ρ (.string ⟨⟨fin⟩⟩)) :
    ∀ (d k : Nat) {h : AW} {μ : Paint} {ρ' : Store} {acc : List UInt8} {b : Option Nat} {bc : Nat} {u : Option Addr}, ts.length - k = d → k ≤ ts.length → Own h μ ρ' → Pcs ρ ρ' [n1, n2, n3, n4] (bldR p u b bc acc []) → (u = none ∨ u = some ⟨p, 0, none⟩) → acc ++ sp ((ts.drop k).map fun s => s.data.toList) = fin →
      unitAt P f_strings_Join 22 [1, 8, 63, 64, 65] [.string ⟨#[32]⟩, .pointer (some ⟨p, 0, none⟩), .slice a ts.length cap, .int .i64 (ts.length : Int), .int .i64 (k : Int)] h Q := by
  intro d
  induction d with
  | zero =>
    intro k h μ ρ' acc b bc u hd hk O W hu ha
    rw [List.drop_eq_nil_of_le (by omega)] at ha
    have ha : acc = fin := by simpa [sp] using ha
    refine r_strings_Join_22 ?_
    rw [geI (by omega)]
    simp only [oB_some, bC_true, bC_false, vInt_int, vBool_bool, vStr_string, vPtr_pointer, vSl_slice, vMap_map, vFun_func, vAgg_agg, vTup_tuple, vIfc_nil, vIfc_iface, lC_cons, lN_nil, aP_some, shO_none, shO_some, Option.isNone_none, Option.isNone_some, Bool.not_true, Bool.not_false]
    refine bs_ok O W h1 h2 (by rw [ha]; omega) (fun e => absurd (ha ▸ e) hf) fun h5 ρ5 O5 W5 => ?_
    simp only [oB_some, bC_true, bC_false, vInt_int, vBool_bool, vStr_string, vPtr_pointer, vSl_slice, vMap_map, vFun_func, vAgg_agg, vTup_tuple, vIfc_nil, vIfc_iface, lC_cons, lN_nil, aP_some, shO_none, shO_some, Option.isNone_none, Option.isNone_some, Bool.not_true, Bool.not_false]
    rw [ha]
    exact hq _ _ _ O5 (W5.fra0 fun c hc => by simp at hc; rcases hc with rfl | rfl <;> assumption)
  | succ d ih =>
    intro k h μ ρ' acc b bc u hd hk O W hu ha
    have hl : k < ts.length := by omega
    have F := fra4 h1 h2 h3 h4 W
    rw [sp_drop hl] at ha
    have hlen : acc.length + 1 + ts[k].size ≤ 1000000000 := by
      have := congrArg List.length ha
      have hs : ts[k].data.toList.length = ts[k].size := rfl
      simp only [List.length_append, List.length_cons] at this
      omega
    refine r_strings_Join_22 ?_
    rw [ltI hl]
    simp only [oB_some, bC_true, bC_false, vInt_int, vBool_bool, vStr_string, vPtr_pointer, vSl_slice, vMap_map, vFun_func, vAgg_agg, vTup_tuple, vIfc_nil, vIfc_iface, lC_cons, lN_nil, aP_some, shO_none, shO_some, Option.isNone_none, Option.isNone_some, Bool.not_true, Bool.not_false]
    refine wd_at O (X.keep F) rfl rfl hl ?_
    refine ws_ok O W hu ⟨#[32]⟩ (by omega) (by decide) fun h5 μ5 ρ5 b5 cap5 O5 W5 => ?_
    simp only [oB_some, bC_true, bC_false, vInt_int, vBool_bool, vStr_string, vPtr_pointer, vSl_slice, vMap_map, vFun_func, vAgg_agg, vTup_tuple, vIfc_nil, vIfc_iface, lC_cons, lN_nil, aP_some, shO_none, shO_some, Option.isNone_none, Option.isNone_some, Bool.not_true, Bool.not_false]
    refine ws_ok O5 W5 (.inr rfl) ts[k] (by simp; omega) (by omega) fun h6 μ6 ρ6 b6 cap6 O6 W6 => ?_
    simp only [oB_some, bC_true, bC_false, vInt_int, vBool_bool, vStr_string, vPtr_pointer, vSl_slice, vMap_map, vFun_func, vAgg_agg, vTup_tuple, vIfc_nil, vIfc_iface, lC_cons, lN_nil, aP_some, shO_none, shO_some, Option.isNone_none, Option.isNone_some, Bool.not_true, Bool.not_false]
    rw [wrapS (by omega)]
    refine ih (k + 1) (by omega) (by omega) O6 W6 (.inr rfl) ?_
    rw [← ha]
    simp only [List.append_assoc]
    rfl
theorem join_12 {ws : List Str} {a : Option Addr} {cap : Nat} (O : Own h μ ρ) (X : Vw ρ [] a (strs ws)) (hw : ws.length ≤ 1000000000) {w0 w1 : Str} {r : List Str} (he : ws = w0 :: w1 :: r) (hcap : ws.length ≤ cap) (hb : tot ws ≤ 400000000) (hq : RdQ Q ρ (.string ⟨⟨joinL ws⟩⟩)) :
    ∀ (d k n : Nat), ws.length - k = d → k ≤ ws.length → 0 < n → n + tot (ws.drop k) ≤ 900000000 →
      unitAt P f_strings_Join 12 [0, 1, 5, 39, 40, 41] [.slice a ws.length cap, .string ⟨#[32]⟩, .int .i64 (n : Int), .slice a ws.length cap, .int .i64 (ws.length : Int), .int .i64 (k : Int)] h Q := by
  intro d
  induction d with
  | zero =>
    intro k n hd hk h0 hn
    refine r_strings_Join_12 ?_
    rw [geI (by omega)]
    simp only [oB_some, bC_true, bC_false, vInt_int, vBool_bool, vStr_string, vPtr_pointer, vSl_slice, vMap_map, vFun_func, vAgg_agg, vTup_tuple, vIfc_nil, vIfc_iface, lC_cons, lN_nil, aP_some, shO_none, shO_some, Option.isNone_none, Option.isNone_some, Bool.not_true, Bool.not_false]
    obtain ⟨μ1, ρ1, n1, n2, n3, n4, O1, W1, h1, h2, h3, h4⟩ := new_bld O p00
    refine grow_ok O1 W1 h1 h2 (.inl rfl) h0 (by omega) fun h5 μ5 ρ5 m1 m2 b O5 W5 k1 k2 => ?_
    have F5 := fra4 k1 k2 h3 h4 W5
    refine wd_at O5 (X.keep F5) (j := 0) rfl rfl (by rw [he]; simp) ?_
    have hjl := join_len ws
    have hx0 : ws[0]'(by rw [he]; simp) = w0 := by simp [he]
    rw [hx0]
    have htot : tot ws = (1 + w0.size) + tot (w1 :: r) := by rw [he]; unfold tot; rw [List.map_cons, List.sum_cons]
    refine ws_ok O5 W5 (.inr rfl) w0 (by simp) (by omega) fun h6 μ6 ρ6 b6 cap6 O6 W6 => ?_
    simp only [oB_some, bC_true, bC_false, vInt_int, vBool_bool, vStr_string, vPtr_pointer, vSl_slice, vMap_map, vFun_func, vAgg_agg, vTup_tuple, vIfc_nil, vIfc_iface, lC_cons, lN_nil, aP_some, shO_none, shO_some, Option.isNone_none, Option.isNone_some, Bool.not_true, Bool.not_false]
    have hwl : ws.length = (w1 :: r).length + 1 := by rw [he]; rfl
    refine oB_bind (natBnd_eq (j := 1) (by omega)) ?_
    rw [Nat.ble_eq_true_of_le hcap]
    simp only [oB_some, bC_true, bC_false, vInt_int, vBool_bool, vStr_string, vPtr_pointer, vSl_slice, vMap_map, vFun_func, vAgg_agg, vTup_tuple, vIfc_nil, vIfc_iface, lC_cons, lN_nil, aP_some, shO_none, shO_some, Option.isNone_none, Option.isNone_some, Bool.not_true, Bool.not_false]
    obtain ⟨a', ea, X'⟩ := X.drop 1
    refine oB_bind ea ?_
    have X2 : Vw ρ [] a' (strs (w1 :: r)) := by
      have : (strs ws).drop 1 = strs (w1 :: r) := by rw [he]; rfl
      rw [← this]; exact X'
    have := join_22 (Q := Q) (ρ := ρ) (ts := w1 :: r) (cap := cap - 1) (fin := joinL ws) X2 (by omega) (by omega) k1 k2 h3 h4 (by rw [he, joinL]; simp [sp]) hq _ 0 rfl (Nat.zero_le _) O6 W6 (.inr rfl) (by rw [he, joinL, List.drop_zero, List.nil_append])
    rw [show ws.length - 1 = (w1 :: r).length from by omega]
    exact this
  | succ d ih =>
    intro k n hd hk h0 hn
    have hl : k < ws.length := by omega
    rw [tot_drop hl] at hn
    refine r_strings_Join_12 ?_
    rw [ltI hl]
    simp only [oB_some, bC_true, bC_false, vInt_int, vBool_bool, vStr_string, vPtr_pointer, vSl_slice, vMap_map, vFun_func, vAgg_agg, vTup_tuple, vIfc_nil, vIfc_iface, lC_cons, lN_nil, aP_some, shO_none, shO_some, Option.isNone_none, Option.isNone_some, Bool.not_true, Bool.not_false]
    refine wd_at O X rfl rfl hl ?_
    rw [show decide (((ws[k].size : Nat) : Int) > IntKind.wrap .i64 (9223372036854775807 - (n : Int))) = false from decide_eq_false (by rw [wrap_small (n := 9223372036854775807 - (n : Int)) (by omega) (by omega)]; omega)]
    simp only [oB_some, bC_true, bC_false, vInt_int, vBool_bool, vStr_string, vPtr_pointer, vSl_slice, vMap_map, vFun_func, vAgg_agg, vTup_tuple, vIfc_nil, vIfc_iface, lC_cons, lN_nil, aP_some, shO_none, shO_some, Option.isNone_none, Option.isNone_some, Bool.not_true, Bool.not_false]
    refine r_strings_Join_16 ?_
    rw [wrapS (by omega), wrap_small (n := (n : Int) + ((ws[k].size : Nat) : Int)) (by omega) (by omega)]
    have := ih (k + 1) (n + ws[k].size) (by omega) (by omega) (by omega) (by omega)
    rw [show ((n + ws[k].size : Nat) : Int) = (n : Int) + ((ws[k].size : Nat) : Int) from by omega] at this
    exact this
/-- Words joined. -/
theorem join_ok {ws : List Str} {a : Option Addr} {cap : Nat} (O : Own h μ ρ) (X : Vw ρ [] a (strs ws)) (hw : 2 ≤ ws.length) (hcap : ws.length ≤ cap) (hb : tot ws ≤ 400000000) (hq : RdQ Q ρ (.string ⟨⟨joinL ws⟩⟩)) :
    EvQ P f_strings_Join [.slice a ws.length cap, .string ⟨#[32]⟩] h Q := by
  obtain ⟨w0, w1, r, he⟩ : ∃ w0 w1 r, ws = w0 :: w1 :: r := by
    match ws, hw with
    | w0 :: w1 :: r, _ => exact ⟨w0, w1, r, rfl⟩
  have hlen : ws.length ≤ tot ws := by
    have : ∀ l : List Str, l.length ≤ tot l := by
      intro l
      induction l with
      | nil => exact Nat.zero_le _
      | cons s l ih =>
        have : tot (s :: l) = (1 + s.size) + tot l := by unfold tot; rw [List.map_cons, List.sum_cons]
        rw [this, List.length_cons]; omega
    exact this ws
  refine r_strings_Join ?_
  rw [show ((ws.length : Int) == 0) = false from beq_eq_false_iff_ne.2 (by omega), show ((ws.length : Int) == 1) = false from beq_eq_false_iff_ne.2 (by omega)]
  rw [wrap_small (n := (ws.length : Int) - 1) (by omega) (by omega)]
  rw [show decide ((ws.length : Int) - 1 = 0) = false from decide_eq_false (by omega)]
  rw [show (((⟨#[32]⟩ : ByteArray).size : Nat) : Int) = 1 from rfl]
  have hq1 : (2 : Int) ≤ Int.tdiv 9223372036854775807 ((ws.length : Int) - 1) ∧ Int.tdiv 9223372036854775807 ((ws.length : Int) - 1) ≤ 9223372036854775807 := by
    rw [Int.tdiv_eq_ediv_of_nonneg (by decide)]
    refine ⟨Int.le_ediv_of_mul_le (by omega) (by omega), Int.ediv_le_self _ (by decide)⟩
  rw [wrap_small (n := Int.tdiv 9223372036854775807 ((ws.length : Int) - 1)) (by omega) (by omega)]
  rw [show decide ((1 : Int) ≥ Int.tdiv 9223372036854775807 ((ws.length : Int) - 1)) = false from decide_eq_false (by omega)]
  simp only [oB_some, bC_true, bC_false, vInt_int, vBool_bool, vStr_string, vPtr_pointer, vSl_slice, vMap_map, vFun_func, vAgg_agg, vTup_tuple, vIfc_nil, vIfc_iface, lC_cons, lN_nil, aP_some, shO_none, shO_some, Option.isNone_none, Option.isNone_some, Bool.not_true, Bool.not_false]
  refine r_strings_Join_10 ?_
  rw [show (((⟨#[32]⟩ : ByteArray).size : Nat) : Int) = 1 from rfl, wrap_small (n := (ws.length : Int) - 1) (by omega) (by omega), Int.one_mul, wrap_small (n := (ws.length : Int) - 1) (by omega) (by omega), Int.zero_add, wrap_small (n := (ws.length : Int) - 1) (by omega) (by omega)]
  have := join_12 O X (by omega) he hcap hb hq _ 0 (ws.length - 1) rfl (Nat.zero_le _) (by omega) (by rw [List.drop_zero]; omega)
  rw [show ((ws.length - 1 : Nat) : Int) = (ws.length : Int) - 1 from by omega] at this
  exact this
end Go.Proofs.YtamoepfiodgbbaaGreatDoor
end

section
/- Nothing but the names. -/
end

section
/- One answer that the document fixes. -/
namespace Go.Proofs.YtamoepfiodgbbaaGreatDoor
open Go.Abs Go.Abs.Fo
set_option maxRecDepth 100000
attribute [local irreducible] unitAt EvQ
variable {h : AW} {μ : Paint} {ρ : Store} {Q : Value → AW → Prop}
end Go.Proofs.YtamoepfiodgbbaaGreatDoor
end

section
/- Statements made by hand: the law's walk. -/
namespace Go.Proofs.YtamoepfiodgbbaaGreatDoor
open Go.Abs Go.Abs.Fo
set_option maxRecDepth 100000
attribute [local irreducible] unitAt EvQ
variable {h : AW} {μ : Paint} {ρ ρ' : Store} {Q : Value → AW → Prop}
/-- What the lines and the text come to. -/
def linesM (f : F) : List Line := if f.may then f.lines else []
def errM (f : F) : Int := if f.may then 0 else 2
theorem lns_none {ρ : Store} : Lns ρ [] none := ⟨Vw.nil, fun p hp => by simp at hp, fun p hp => by simp at hp⟩
theorem linesC_ok (O : Own h μ ρ) (T : Vw ρ [] (some ⟨5, 0, none⟩) pow10) {f : F} {a : Option Addr} {cap : Nat} (X : Ly ρ f a) (hl : f.len ≤ 140737488355328) (hz : f.size ≤ 1000000000) (hs : Slim f)
    (H : ∀ h' μ' ρ' oa oc ps, Own h' μ' ρ' → Fra [] ρ ρ' → Lns ρ' ps oa → ps.map Wds.x = linesM f → Q (.tuple ⟨[.slice oa ps.length oc, .int .i64 (errM f)]⟩) h') : EvQ P f_action_Lines [.slice a f.len cap] h Q := by
  refine linesB_ok O T X hl hz hs (fun e h1 μ1 ρ1 O1 F1 => ?_) (fun e h1 μ1 ρ1 co cm oa oc ps vs O1 W1 hco hcm B e1 => ?_)
  · have := H h1 μ1 ρ1 none 0 [] O1 F1 lns_none (by unfold linesM; rw [e]; rfl)
    unfold errM at this
    rw [e] at this
    exact this
  · have := H h1 μ1 ρ1 oa oc ps O1 (W1.fra0 fun c hc => by simp at hc; rcases hc with rfl | rfl <;> assumption) (B.lns O1 (W1.at_ 0 _ _ rfl rfl) (W1.at_ 1 _ _ rfl rfl)) (by unfold linesM; rw [e, if_pos rfl]; exact e1)
    unfold errM at this
    rw [e, if_pos rfl] at this
    exact this
theorem txt_lines {f : F} {ps : List Wds} (e : ps.map Wds.x = linesM f) (hf : full f ≤ 262143) : Txt ps := by
  unfold linesM at e
  split at e
  · exact txt_of e hf
  · have : ps = [] := by simpa using e
    subst this
    exact ⟨Nat.zero_le _, fun p hp => by simp at hp, fun p hp => by simp at hp, by simp [prL]⟩
theorem print_ok (O : Own h μ ρ) (T : Vw ρ [] (some ⟨5, 0, none⟩) pow10) {f : F} {a : Option Addr} {cap : Nat} (X : Ly ρ f a) (hl : f.len ≤ 140737488355328) (hz : f.size ≤ 1000000000) (hs : Slim f) (hf : full f ≤ 262143)
    (hq : RdQ Q ρ (.tuple ⟨[.string ⟨⟨prL (linesM f)⟩⟩, .int .i64 (errM f)]⟩)) : EvQ P f_action_Print [.slice a f.len cap] h Q := by
  refine r_action_Print ?_
  refine linesC_ok O T X hl hz hs fun h1 μ1 ρ1 oa oc ps O1 F1 Z e => ?_
  have B := txt_lines e hf
  simp only [oB_some, bC_true, bC_false, vInt_int, vBool_bool, vStr_string, vPtr_pointer, vSl_slice, vMap_map, vFun_func, vAgg_agg, vTup_tuple, vIfc_nil, vIfc_iface, lC_cons, lN_nil, aP_some, shO_none, shO_some, Option.isNone_none, Option.isNone_some, Bool.not_true, Bool.not_false]
  cases hm : f.may with
  | false =>
    have e2 : errM f = 2 := by unfold errM; rw [hm]; rfl
    have e1 : linesM f = [] := by unfold linesM; rw [hm]; rfl
    rw [e1, e2] at hq
    rw [e2]
    show bC true _ _
    simp only [oB_some, bC_true, bC_false, vInt_int, vBool_bool, vStr_string, vPtr_pointer, vSl_slice, vMap_map, vFun_func, vAgg_agg, vTup_tuple, vIfc_nil, vIfc_iface, lC_cons, lN_nil, aP_some, shO_none, shO_some, Option.isNone_none, Option.isNone_some, Bool.not_true, Bool.not_false]
    exact hq _ _ _ O1 F1
  | true =>
    have e2 : errM f = 0 := by unfold errM; rw [hm]; rfl
    rw [e2] at hq
    rw [e2]
    show bC false _ _
    simp only [oB_some, bC_true, bC_false, vInt_int, vBool_bool, vStr_string, vPtr_pointer, vSl_slice, vMap_map, vFun_func, vAgg_agg, vTup_tuple, vIfc_nil, vIfc_iface, lC_cons, lN_nil, aP_some, shO_none, shO_some, Option.isNone_none, Option.isNone_some, Bool.not_true, Bool.not_false]
    obtain ⟨μ2, ρ2, n1, n2, n3, n4, O2, W2, h1, h2, h3, h4⟩ := new_bld O1 p00
    refine aprint_6 Z B h1 h2 h3 h4 (by rw [e]; exact hq.keep F1) _ 0 rfl (Nat.zero_le _) O2 W2 (.inl rfl) (fun _ => rfl) (by rw [List.drop_zero, List.nil_append])
end Go.Proofs.YtamoepfiodgbbaaGreatDoor
end

section
/- Lines of a text, cut behind each newline; the text of a job's code. -/
namespace Go.Proofs.YtamoepfiodgbbaaGreatDoor
open Go.Abs Go.Abs.Fo
set_option maxRecDepth 100000
attribute [local irreducible] unitAt EvQ
variable {h : AW} {μ : Paint} {ρ0 ρ : Store} {Q : Value → AW → Prop} {ns : List Nat} {rs : List Res}
theorem cnt_fn : cntFn P f_bytealg_CountString = true := by kernel_rfl
theorem cnt_idx : idxFn P f_bytealg_CountString = false := by kernel_rfl
theorem cnt_body : bodyOf P f_bytealg_CountString = none := by kernel_rfl
theorem count_ok {s : Str} {c : Int} (hq : Q (.int .i64 ((s.data.toList.count c.toNat.toUInt8 : Nat) : Int)) h) : EvQ P f_bytealg_CountString [.string s, .int .u8 c] h Q := by
  unfold EvQ
  refine ⟨_, h, ⟨1, ?_⟩, hq⟩
  unfold callF
  rw [cnt_body]
  simp only
  unfold noBodyV
  simp only
  unfold sameV
  simp only
  rw [cnt_idx]
  simp only
  rw [cnt_fn]
theorem prL_cons (l : Line) (L : List Line) : prL (l :: L) = jn true l ++ 10 :: prL L := by simp [prL]
theorem prL_count : ∀ L : List Line, (prL L).count 10 = L.length
  | [] => rfl
  | l :: L => by
    rw [prL_cons, List.count_append, List.count_cons, prL_count L]
    have : (jn true l).count 10 = 0 := List.count_eq_zero.2 fun h => jn_10 true l 10 h rfl
    rw [this]
    simp
theorem idxB_app {c : UInt8} {y : List UInt8} : ∀ {x : List UInt8}, c ∉ x → idxB (x ++ c :: y) c = (x.length : Int)
  | [], _ => by simp [idxB]
  | b :: x, h => by
    have e : (b == c) = false := beq_eq_false_iff_ne.2 fun e => h (by simp [e])
    rw [List.cons_append, idxB, e, idxB_app (x := x) (fun hm => h (by simp [hm]))]
    have : ((x.length : Int) == -1) = false := by rw [beq_eq_false_iff_ne]; omega
    rw [this]
    simp
def lineT (l : Line) : Str := ⟨⟨jn true l ++ [10]⟩⟩
def splitA (L : List Line) : List Str := L.map lineT ++ [e0]
theorem sub_lo {x y : List UInt8} : bSub ⟨⟨x ++ 10 :: y⟩⟩ 0 (x.length + 1) = ⟨⟨x ++ [10]⟩⟩ := by
  apply str_eq
  unfold bSub
  simp only [List.drop_zero, Nat.sub_zero]
  rw [show x ++ 10 :: y = (x ++ [10]) ++ y from by simp, show x.length + 1 = (x ++ [10]).length from by simp, List.take_left]
theorem sub_hi {x y : List UInt8} {n : Nat} (hn : n = x.length + 1 + y.length) : bSub ⟨⟨x ++ 10 :: y⟩⟩ (x.length + 1) n = ⟨⟨y⟩⟩ := by
  apply str_eq
  unfold bSub
  subst hn
  simp only
  rw [show x ++ 10 :: y = (x ++ [10]) ++ y from by simp, show x.length + 1 = (x ++ [10]).length from by simp, List.drop_left, Nat.add_sub_cancel_left, List.take_length]
theorem sh_0 {a : Option Addr} {l : List Value} (S : Sl h a l) : shO a 0 = some a := by
  rcases S with ⟨rfl, _⟩ | ⟨i, off, rfl, _⟩ <;> rfl
theorem split_11 {L : List Line} (hL : L.length ≤ 1000000000) (hs : (prL L).length ≤ 1000000000) {c : Nat}
    (hq : ∀ h' μ' ρ' a, Own h' μ' ρ' → Pcs ρ ρ' [c] [.sl a (L.length + 1) 1 (strs (splitA L))] → Q (.slice a (L.length + 1) (L.length + 1)) h') :
    ∀ (d k : Nat) {h : AW} {μ : Paint} {ρ' : Store} {a : Option Addr}, L.length - k = d → k ≤ L.length → Own h μ ρ' → Pcs ρ ρ' [c] [.sl a (L.length + 1) 1 (strs ((L.take k).map lineT) ++ List.replicate (L.length + 1 - k) (.string e0))] →
      unitAt P f_strings_genSplit 11 [0, 1, 2, 3, 9, 10] [.string ⟨⟨prL (L.drop k)⟩⟩, .string ⟨#[10]⟩, .int .i64 1, .int .i64 (L.length : Int), .slice a (L.length + 1) (L.length + 1), .int .i64 (k : Int)] h Q := by
  intro d
  induction d with
  | zero =>
    intro k h μ ρ' a hd hk O W
    have hk' : k = L.length := by omega
    subst hk'
    refine r_strings_genSplit_11 ?_
    rw [geI (Nat.le_refl _)]
    simp only [oB_some, bC_true, bC_false, vInt_int, vBool_bool, vStr_string, vPtr_pointer, vSl_slice, vMap_map, vFun_func, vAgg_agg, vTup_tuple, vIfc_nil, vIfc_iface, lC_cons, lN_nil, aP_some, shO_none, shO_some, Option.isNone_none, Option.isNone_some, Bool.not_true, Bool.not_false]
    refine r_strings_genSplit_17 ?_
    refine w_i1_wr O W 0 rfl (j := L.length) rfl (by simp) (by simp) rfl fun h2 ρ2 O2 W2 => ?_
    rw [wrapS (by omega)]
    refine oB_bind (natBnd_eq (Nat.le_refl _)) ?_
    rw [Nat.ble_eq_true_of_le (Nat.le_refl _)]
    simp only [oB_some, bC_true, bC_false, vInt_int, vBool_bool, vStr_string, vPtr_pointer, vSl_slice, vMap_map, vFun_func, vAgg_agg, vTup_tuple, vIfc_nil, vIfc_iface, lC_cons, lN_nil, aP_some, shO_none, shO_some, Option.isNone_none, Option.isNone_some, Bool.not_true, Bool.not_false]
    refine oB_bind (sh_0 (w_sl O2 W2 0 rfl)) ?_
    refine hq _ _ _ a O2 (W2.eq ?_)
    simp only [splitA, strs, List.map_append, List.take_length, List.drop_length, List.set_cons_zero]
    rw [List.set_append_right _ _ (by simp)]
    simp [prL, e0]
  | succ d ih =>
    intro k h μ ρ' a hd hk O W
    have hl : k < L.length := by omega
    have hp : prL (L.drop k) = jn true L[k] ++ 10 :: prL (L.drop (k + 1)) := by rw [List.drop_eq_getElem_cons hl, prL_cons]
    have hlen : (jn true L[k]).length + 1 + (prL (L.drop (k + 1))).length ≤ 1000000000 := by
      have e : prL L = prL (L.take k) ++ prL (L.drop k) := by unfold prL; rw [← List.flatMap_append, List.take_append_drop]
      have := congrArg List.length e
      rw [List.length_append, hp, List.length_append, List.length_cons] at this
      omega
    refine r_strings_genSplit_11 ?_
    rw [ltI hl]
    simp only [oB_some, bC_true, bC_false, vInt_int, vBool_bool, vStr_string, vPtr_pointer, vSl_slice, vMap_map, vFun_func, vAgg_agg, vTup_tuple, vIfc_nil, vIfc_iface, lC_cons, lN_nil, aP_some, shO_none, shO_some, Option.isNone_none, Option.isNone_some, Bool.not_true, Bool.not_false]
    rw [hp]
    refine r_strings_Index (index1_ok 10 ?_)
    simp only [oB_some, bC_true, bC_false, vInt_int, vBool_bool, vStr_string, vPtr_pointer, vSl_slice, vMap_map, vFun_func, vAgg_agg, vTup_tuple, vIfc_nil, vIfc_iface, lC_cons, lN_nil, aP_some, shO_none, shO_some, Option.isNone_none, Option.isNone_some, Bool.not_true, Bool.not_false]
    rw [idxB_app (fun hm => jn_10 true L[k] 10 hm rfl)]
    rw [show decide (((jn true L[k]).length : Int) < 0) = false from decide_eq_false (by omega)]
    simp only [oB_some, bC_true, bC_false, vInt_int, vBool_bool, vStr_string, vPtr_pointer, vSl_slice, vMap_map, vFun_func, vAgg_agg, vTup_tuple, vIfc_nil, vIfc_iface, lC_cons, lN_nil, aP_some, shO_none, shO_some, Option.isNone_none, Option.isNone_some, Bool.not_true, Bool.not_false]
    have hsz : (⟨⟨jn true L[k] ++ 10 :: prL (L.drop (k + 1))⟩⟩ : ByteArray).size = (jn true L[k]).length + 1 + (prL (L.drop (k + 1))).length := by
      show (jn true L[k] ++ 10 :: prL (L.drop (k + 1))).length = _
      rw [List.length_append, List.length_cons]
      omega
    rw [hsz, show (((⟨#[10]⟩ : ByteArray).size : Nat) : Int) = 1 from rfl, wrapS (by omega)]
    refine oB_bind (natBnd_eq (by omega)) ?_
    rw [sub_lo]
    refine w_i1_wr O W 0 rfl (j := k) rfl (by simp; omega) (by simp; omega) rfl fun h2 ρ2 O2 W2 => ?_
    refine oB_bind (natBnd_eq (by omega)) ?_
    rw [sub_hi rfl, wrapS (by omega)]
    refine ih (k + 1) (by omega) (by omega) O2 (W2.eq ?_)
    simp only [List.set_cons_zero]
    rw [List.set_append_right _ _ (by simp; omega), List.take_succ_eq_append_getElem hl, show L.length + 1 - k = (L.length + 1 - (k + 1)) + 1 from by omega, List.replicate_succ]
    have e1 : strs ((L.take k ++ [L[k]]).map lineT) = strs ((L.take k).map lineT) ++ [.string (lineT L[k])] := by simp only [strs, List.map_append, List.map_cons, List.map_nil]
    have e2 : k - (strs ((L.take k).map lineT)).length = 0 := by simp; omega
    rw [e1, e2, List.append_assoc]
    rfl
/-- A text of lines, cut behind each newline. -/
theorem split_ok (O : Own h μ ρ) {L : List Line} (hs : (prL L).length ≤ 900000000)
    (hq : ∀ h' μ' ρ' c a, Own h' μ' ρ' → Pcs ρ ρ' [c] [.sl a (L.length + 1) 1 (strs (splitA L))] → ρ c = none → Q (.slice a (L.length + 1) (L.length + 1)) h') : EvQ P f_strings_SplitAfter [.string ⟨⟨prL L⟩⟩, .string ⟨#[10]⟩] h Q := by
  have hL : L.length ≤ (prL L).length := by rw [← prL_count L]; exact List.count_le_length
  refine r_strings_SplitAfter (r_strings_genSplit ?_)
  rw [show ((Int.negSucc 0) == (0 : Int)) = false from rfl, show bEq (⟨#[10]⟩ : ByteArray) ⟨#[]⟩ = false from rfl, show decide (Int.negSucc 0 < 0) = true from rfl]
  simp only [oB_some, bC_true, bC_false, vInt_int, vBool_bool, vStr_string, vPtr_pointer, vSl_slice, vMap_map, vFun_func, vAgg_agg, vTup_tuple, vIfc_nil, vIfc_iface, lC_cons, lN_nil, aP_some, shO_none, shO_some, Option.isNone_none, Option.isNone_some, Bool.not_true, Bool.not_false]
  refine r_strings_Count ?_
  rw [show (((⟨#[10]⟩ : ByteArray).size : Int) == 0) = false from rfl, show (((⟨#[10]⟩ : ByteArray).size : Int) == 1) = true from rfl]
  simp only [oB_some, bC_true, bC_false, vInt_int, vBool_bool, vStr_string, vPtr_pointer, vSl_slice, vMap_map, vFun_func, vAgg_agg, vTup_tuple, vIfc_nil, vIfc_iface, lC_cons, lN_nil, aP_some, shO_none, shO_some, Option.isNone_none, Option.isNone_some, Bool.not_true, Bool.not_false]
  refine oB_bind (v := 0) rfl ?_
  refine oB_bind (v := 10) rfl ?_
  refine count_ok ?_
  simp only [oB_some, bC_true, bC_false, vInt_int, vBool_bool, vStr_string, vPtr_pointer, vSl_slice, vMap_map, vFun_func, vAgg_agg, vTup_tuple, vIfc_nil, vIfc_iface, lC_cons, lN_nil, aP_some, shO_none, shO_some, Option.isNone_none, Option.isNone_some, Bool.not_true, Bool.not_false]
  have hc : ((⟨⟨prL L⟩⟩ : ByteArray).data.toList.count (10 : Int).toNat.toUInt8) = L.length := prL_count L
  rw [hc, wrapS (by omega)]
  refine r_strings_genSplit_7 ?_
  have hsz : (((⟨⟨prL L⟩⟩ : ByteArray).size : Nat) : Int) = ((prL L).length : Int) := rfl
  rw [hsz, wrapS (by omega), if_neg (by omega), show (((⟨#[10]⟩ : ByteArray).size : Nat) : Int) = 1 from rfl]
  rw [wrap_small (n := ((L.length + 1 : Nat) : Int) - 1) (by omega) (by omega)]
  refine w_make (P := P) O p00 ti_ty_sl_string ti_ty_string (L.length + 1) rfl (by rw [show (Value.string (ByteArray.mk (Array.mk []))).cells.toList = [Value.string e0] from rfl, rep_one]; exact allOne_of fun v hv => by rw [(List.mem_replicate.1 hv).2]; rfl) (by omega) (by omega) fun h2 μ2 ρ2 c a O2 W2 hc => ?_
  simp only [oB_some, bC_true, bC_false, vInt_int, vBool_bool, vStr_string, vPtr_pointer, vSl_slice, vMap_map, vFun_func, vAgg_agg, vTup_tuple, vIfc_nil, vIfc_iface, lC_cons, lN_nil, aP_some, shO_none, shO_some, Option.isNone_none, Option.isNone_some, Bool.not_true, Bool.not_false]
  have := split_11 (Q := fun v5 h6 => vSl v5 fun p5 m6 m7 => Q (.slice p5 m6 m7) h6) (ρ := ρ) (L := L) (a := a) (by omega) (by omega) (fun h' μ' ρ' a O' W' => hq h' μ' ρ' c a O' W' hc) _ 0 rfl (Nat.zero_le _) O2 (W2.eq (by rw [show (Value.string (ByteArray.mk (Array.mk []))).cells.toList = [Value.string e0] from rfl, rep_one]; simp [strs]))
  rw [List.drop_zero] at this
  rw [show ((L.length + 1 : Nat) : Int) - 1 = (L.length : Int) from by omega]
  exact this
theorem app_str (x y : List UInt8) : (⟨⟨x⟩⟩ : ByteArray) ++ ⟨⟨y⟩⟩ = ⟨⟨x ++ y⟩⟩ := by
  apply str_eq
  simp
def tabW (x : List Str) : List UInt8 := x.flatMap fun s => if s.data.toList = [] then [] else 9 :: s.data.toList
theorem tab_split (L : List Line) : tabW (splitA L) = tabL L := by
  unfold splitA tabW
  rw [List.flatMap_append]
  have : ([e0].flatMap fun s : Str => if s.data.toList = [] then [] else 9 :: s.data.toList) = [] := by simp [e0]
  rw [this, List.append_nil, List.flatMap_map]
  unfold tabL
  congr 1
  funext l
  simp [lineT]
theorem tab_18 {x : List Str} {a : Option Addr} {cap : Nat} {fin : List UInt8} (O : Own h μ ρ) (X : Vw ρ [] a (strs x)) (hx : x.length ≤ 1000000000) (hfin : fin.length ≤ 1000000000) (hq : Q (.string ⟨⟨fin⟩⟩) h) :
    ∀ (d k : Nat) (acc : List UInt8), x.length - k = d → k ≤ x.length → acc ++ tabW (x.drop k) = fin →
      unitAt P f_elab_JobText 18 [8, 56, 57, 58] [.string ⟨⟨acc⟩⟩, .slice a x.length cap, .int .i64 (x.length : Int), .int .i64 (k : Int)] h Q := by
  intro d
  induction d with
  | zero =>
    intro k acc hd hk ha
    rw [List.drop_eq_nil_of_le (by omega)] at ha
    have ha : acc = fin := by simpa [tabW] using ha
    refine r_elab_JobText_18 ?_
    rw [geI (by omega)]
    simp only [oB_some, bC_true, bC_false, vInt_int, vBool_bool, vStr_string, vPtr_pointer, vSl_slice, vMap_map, vFun_func, vAgg_agg, vTup_tuple, vIfc_nil, vIfc_iface, lC_cons, lN_nil, aP_some, shO_none, shO_some, Option.isNone_none, Option.isNone_some, Bool.not_true, Bool.not_false]
    rw [ha]
    exact hq
  | succ d ih =>
    intro k acc hd hk ha
    have hl : k < x.length := by omega
    rw [List.drop_eq_getElem_cons hl] at ha
    have e : tabW (x[k] :: x.drop (k + 1)) = (if x[k].data.toList = [] then [] else 9 :: x[k].data.toList) ++ tabW (x.drop (k + 1)) := rfl
    rw [e, ← List.append_assoc] at ha
    refine r_elab_JobText_18 ?_
    rw [ltI hl]
    simp only [oB_some, bC_true, bC_false, vInt_int, vBool_bool, vStr_string, vPtr_pointer, vSl_slice, vMap_map, vFun_func, vAgg_agg, vTup_tuple, vIfc_nil, vIfc_iface, lC_cons, lN_nil, aP_some, shO_none, shO_some, Option.isNone_none, Option.isNone_some, Bool.not_true, Bool.not_false]
    refine wd_at O X rfl rfl hl ?_
    by_cases h0 : x[k].data.toList = []
    · rw [if_pos h0, List.append_nil] at ha
      have : x[k] = ⟨#[]⟩ := str_eq (by rw [h0])
      rw [show bEq x[k] ⟨#[]⟩ = true from bEq_iff.2 this]
      simp only [oB_some, bC_true, bC_false, vInt_int, vBool_bool, vStr_string, vPtr_pointer, vSl_slice, vMap_map, vFun_func, vAgg_agg, vTup_tuple, vIfc_nil, vIfc_iface, lC_cons, lN_nil, aP_some, shO_none, shO_some, Option.isNone_none, Option.isNone_some, Bool.not_true, Bool.not_false]
      rw [wrapS (by omega)]
      exact ih (k + 1) acc (by omega) (by omega) ha
    · rw [if_neg h0] at ha
      have hn : bEq x[k] ⟨#[]⟩ = false := by
        cases hb : bEq x[k] ⟨#[]⟩ with
        | false => rfl
        | true => exact absurd (by rw [bEq_iff.1 hb]) h0
      rw [hn]
      have hlen : acc.length + 1 + x[k].size ≤ 1000000000 := by
        have := congrArg List.length ha
        have hs : x[k].data.toList.length = x[k].size := rfl
        simp only [List.length_append, List.length_cons] at this
        omega
      have e1 : (⟨#[9]⟩ : ByteArray) ++ x[k] = ⟨⟨9 :: x[k].data.toList⟩⟩ := app_str [9] x[k].data.toList
      have e2 : (⟨⟨acc⟩⟩ : ByteArray) ++ ⟨⟨9 :: x[k].data.toList⟩⟩ = ⟨⟨acc ++ 9 :: x[k].data.toList⟩⟩ := app_str _ _
      have s1 : (⟨⟨9 :: x[k].data.toList⟩⟩ : ByteArray).size = 1 + x[k].size := by
        show (9 :: x[k].data.toList).length = _
        rw [List.length_cons, Nat.add_comm]; rfl
      have s2 : (⟨⟨acc⟩⟩ : ByteArray).size = acc.length := rfl
      rw [e1, e2, s1, s2, Nat.ble_eq_true_of_le (by omega), Nat.ble_eq_true_of_le (by omega)]
      simp only [oB_some, bC_true, bC_false, vInt_int, vBool_bool, vStr_string, vPtr_pointer, vSl_slice, vMap_map, vFun_func, vAgg_agg, vTup_tuple, vIfc_nil, vIfc_iface, lC_cons, lN_nil, aP_some, shO_none, shO_some, Option.isNone_none, Option.isNone_some, Bool.not_true, Bool.not_false]
      rw [wrapS (by omega)]
      exact ih (k + 1) _ (by omega) (by omega) ha
end Go.Proofs.YtamoepfiodgbbaaGreatDoor
end
