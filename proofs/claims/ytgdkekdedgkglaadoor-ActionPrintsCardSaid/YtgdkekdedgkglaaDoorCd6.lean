/- A deterministic heap for the model, proved sound, and walks of the program over it: part 12. No condition. -/
import Derived.Test.YtgdkekdedgkglaaDoorAb1
import Derived.Test.YtgdkekdedgkglaaDoorAb2
import Derived.Test.YtgdkekdedgkglaaDoorAb3
import Derived.Test.YtgdkekdedgkglaaDoorAb4
import Derived.Test.YtgdkekdedgkglaaDoorCd2
import Derived.Test.YtgdkekdedgkglaaDoorAb5
import Derived.Test.YtgdkekdedgkglaaDoorCd4
import Derived.Test.YtgdkekdedgkglaaDoorCd3
import Derived.Test.YtgdkekdedgkglaaDoorCd5
import Derived.Test.YtgdkekdedgkglaaDoorCd1
import Derived.Test.YtgdkekdedgkglaaDoorAb6
import Derived.Test.YtgdkekdedgkglaaDoorCards
import Derived.Test.YtgdkekdedgkglaaDoorTie
import Derived.OpenShut
import Derived.Stop.LaidTwo
set_option linter.unusedVariables false
set_option linter.unusedSimpArgs false
set_option linter.unusedSectionVars false
section
/- strings.Builder; words as text. -/
namespace Go.Proofs.YtgdkekdedgkglaaDoor
open Go.Abs Go.Abs.Fo
set_option maxRecDepth 100000
attribute [local irreducible] unitAt EvQ
variable {h : AW} {μ : Paint} {ρ0 ρ : Store} {Q : Value → AW → Prop} {ns : List Nat} {rs : List Res}
theorem same_fn : sameFn P f_abi_NoEscape = true := by kernel_rfl
theorem no_body : bodyOf P f_abi_NoEscape = none := by kernel_rfl
theorem noEscape_ok {p : Option Addr} (hq : Q (.pointer p) h) : EvQ P f_abi_NoEscape [.pointer p] h Q := by
  unfold EvQ
  refine ⟨_, _, ⟨1, ?_⟩, hq⟩
  unfold callF
  rw [no_body]
  simp only
  unfold sameV
  simp only
  rw [same_fn]
/-- A builder's pieces. -/
def bldR (p : Nat) (u : Option Addr) (b : Option Nat) (cap : Nat) (l : List UInt8) (rs : List Res) : List Res :=
  .sl (basA b) cap 1 (ofBytes l) :: tyR b ty_uint8 :: .var p [.pointer u, .slice (basA b) l.length cap] :: .ty p ty_strings_Builder :: rs
theorem eq_pp (p : Nat) : eqV P ty_p_strings_Builder false (.pointer (some ⟨p, 0, none⟩)) (.pointer (some ⟨p, 0, none⟩)) = some true := by
  unfold eqV
  rw [ti_ty_p_strings_Builder]
  simp only
  rw [ti_ty_strings_Builder, Nat.beq_refl]
  rfl
theorem cc_ok (O : Own h μ ρ) {p cap : Nat} {u : Option Addr} {b : Option Nat} {l : List UInt8} (W : Pcs ρ0 ρ ns (bldR p u b cap l rs)) (hu : u = none ∨ u = some ⟨p, 0, none⟩)
    (hq : ∀ h' μ' ρ', Own h' μ' ρ' → Pcs ρ0 ρ' ns (bldR p (some ⟨p, 0, none⟩) b cap l rs) → Q (.tuple ⟨[]⟩) h') : EvQ P f_p_strings_Builder_copyCheck [.pointer (some ⟨p, 0, none⟩)] h Q := by
  refine r_p_strings_Builder_copyCheck ?_
  simp only [aP_some]
  refine w_rd O W 2 (j := 0) rfl rfl ?_
  rcases hu with rfl | rfl
  · simp only [oB_some, bC_true, bC_false, vInt_int, vBool_bool, vStr_string, vPtr_pointer, vSl_slice, vMap_map, vFun_func, vAgg_agg, vTup_tuple, vIfc_nil, vIfc_iface, lC_cons, lN_nil, aP_some, shO_none, shO_some, Option.isNone_none, Option.isNone_some, Bool.not_true, Bool.not_false]
    refine w_toU O W 2 rfl (Nat.zero_lt_succ _) ti_ty_p_strings_Builder ti_ty_unsafe_Pointer ti_ty_strings_Builder rfl ?_
    simp only [oB_some, bC_true, bC_false, vInt_int, vBool_bool, vStr_string, vPtr_pointer, vSl_slice, vMap_map, vFun_func, vAgg_agg, vTup_tuple, vIfc_nil, vIfc_iface, lC_cons, lN_nil, aP_some, shO_none, shO_some, Option.isNone_none, Option.isNone_some, Bool.not_true, Bool.not_false]
    refine noEscape_ok ?_
    simp only [oB_some, bC_true, bC_false, vInt_int, vBool_bool, vStr_string, vPtr_pointer, vSl_slice, vMap_map, vFun_func, vAgg_agg, vTup_tuple, vIfc_nil, vIfc_iface, lC_cons, lN_nil, aP_some, shO_none, shO_some, Option.isNone_none, Option.isNone_some, Bool.not_true, Bool.not_false]
    refine w_fromU O W 2 3 rfl rfl ti_ty_unsafe_Pointer ti_ty_p_strings_Builder ti_ty_strings_Builder rfl (Nat.le_refl 2) ?_
    simp only [oB_some, bC_true, bC_false, vInt_int, vBool_bool, vStr_string, vPtr_pointer, vSl_slice, vMap_map, vFun_func, vAgg_agg, vTup_tuple, vIfc_nil, vIfc_iface, lC_cons, lN_nil, aP_some, shO_none, shO_some, Option.isNone_none, Option.isNone_some, Bool.not_true, Bool.not_false]
    refine w_wr O W 2 (j := 0) rfl (Nat.le_of_ble_eq_true rfl) rfl fun h' ρ' O' W' => ?_
    exact hq _ _ _ O' W'
  · simp only [oB_some, bC_true, bC_false, vInt_int, vBool_bool, vStr_string, vPtr_pointer, vSl_slice, vMap_map, vFun_func, vAgg_agg, vTup_tuple, vIfc_nil, vIfc_iface, lC_cons, lN_nil, aP_some, shO_none, shO_some, Option.isNone_none, Option.isNone_some, Bool.not_true, Bool.not_false]
    refine w_rd O W 2 (j := 0) rfl rfl ?_
    simp only [oB_some, bC_true, bC_false, vInt_int, vBool_bool, vStr_string, vPtr_pointer, vSl_slice, vMap_map, vFun_func, vAgg_agg, vTup_tuple, vIfc_nil, vIfc_iface, lC_cons, lN_nil, aP_some, shO_none, shO_some, Option.isNone_none, Option.isNone_some, Bool.not_true, Bool.not_false]
    rw [eq_pp]
    simp only [oB_some, bC_true, bC_false, vInt_int, vBool_bool, vStr_string, vPtr_pointer, vSl_slice, vMap_map, vFun_func, vAgg_agg, vTup_tuple, vIfc_nil, vIfc_iface, lC_cons, lN_nil, aP_some, shO_none, shO_some, Option.isNone_none, Option.isNone_some, Bool.not_true, Bool.not_false]
    exact hq _ _ _ O W
theorem ofB_snoc (l : List UInt8) (c : UInt8) : ofBytes l ++ [.int .u8 (c.toNat : Int)] = ofBytes (l ++ [c]) := by
  unfold ofBytes; rw [List.map_append]; rfl
theorem ofB_app (l m : List UInt8) : ofBytes l ++ ofBytes m = ofBytes (l ++ m) := by
  unfold ofBytes; rw [List.map_append]
theorem ofB_len (l : List UInt8) : (ofBytes l).length = l.length := by unfold ofBytes; rw [List.length_map]
/-- A byte is written. -/
theorem wb_ok (O : Own h μ ρ) {p cap : Nat} {u : Option Addr} {b : Option Nat} {l : List UInt8} (W : Pcs ρ0 ρ ns (bldR p u b cap l rs)) (hu : u = none ∨ u = some ⟨p, 0, none⟩) (c : UInt8) {z : Int} (hz : z = (c.toNat : Int)) (hl : l.length ≤ 1000000000)
    (hq : ∀ h' μ' ρ' b' cap', Own h' μ' ρ' → Pcs ρ0 ρ' ns (bldR p (some ⟨p, 0, none⟩) b' cap' (l ++ [c]) rs) → Q .nilIface h') : EvQ P f_p_strings_Builder_WriteByte [.pointer (some ⟨p, 0, none⟩), .int .u8 z] h Q := by
  subst hz
  refine r_p_strings_Builder_WriteByte ?_
  refine cc_ok O W hu fun h1 μ1 ρ1 O1 W1 => ?_
  simp only [aP_some]
  refine w_rd O1 W1 2 (j := 1) rfl rfl ?_
  simp only [oB_some, bC_true, bC_false, vInt_int, vBool_bool, vStr_string, vPtr_pointer, vSl_slice, vMap_map, vFun_func, vAgg_agg, vTup_tuple, vIfc_nil, vIfc_iface, lC_cons, lN_nil, aP_some, shO_none, shO_some, Option.isNone_none, Option.isNone_some, Bool.not_true, Bool.not_false]
  obtain ⟨μ2, ρ2, c2, O2, W2, hc2⟩ := w_block O1 W1 [.int .u8 (c.toNat : Int)] (n := 1) (sz := 1) rfl rfl
  refine w_appT (P := P) (m := 1) O2 W2 1 2 (by decide) ti_ty_sl_uint8 ti_ty_uint8 rfl rfl (ofB_len l).symm (w_sl O2 W2 0 rfl) rfl rfl (by omega) (by omega) fun b' cap' h3 μ3 ρ3 O3 W3 => ?_
  simp only [oB_some, bC_true, bC_false, vInt_int, vBool_bool, vStr_string, vPtr_pointer, vSl_slice, vMap_map, vFun_func, vAgg_agg, vTup_tuple, vIfc_nil, vIfc_iface, lC_cons, lN_nil, aP_some, shO_none, shO_some, Option.isNone_none, Option.isNone_some, Bool.not_true, Bool.not_false]
  have W4 := W3.tail hc2
  refine w_wr O3 W4 2 (j := 1) rfl (Nat.le_of_ble_eq_true rfl) rfl fun h5 ρ5 O5 W5 => ?_
  refine hq _ _ _ b' cap' O5 (W5.eq ?_)
  simp only [bldR, ← ofB_snoc, List.length_append, List.length_cons, List.length_nil]
  rfl
/-- A string is written. -/
theorem ws_ok (O : Own h μ ρ) {p cap : Nat} {u : Option Addr} {b : Option Nat} {l : List UInt8} (W : Pcs ρ0 ρ ns (bldR p u b cap l rs)) (hu : u = none ∨ u = some ⟨p, 0, none⟩) (s : Str) (hl : l.length ≤ 1000000000) (hs : s.size ≤ 1000000000)
    (hq : ∀ h' μ' ρ' b' cap', Own h' μ' ρ' → Pcs ρ0 ρ' ns (bldR p (some ⟨p, 0, none⟩) b' cap' (l ++ s.data.toList) rs) → Q (.tuple ⟨[.int .i64 (s.size : Int), .nilIface]⟩) h') : EvQ P f_p_strings_Builder_WriteString [.pointer (some ⟨p, 0, none⟩), .string s] h Q := by
  refine r_p_strings_Builder_WriteString ?_
  refine cc_ok O W hu fun h1 μ1 ρ1 O1 W1 => ?_
  simp only [aP_some]
  refine w_rd O1 W1 2 (j := 1) rfl rfl ?_
  simp only [oB_some, bC_true, bC_false, vInt_int, vBool_bool, vStr_string, vPtr_pointer, vSl_slice, vMap_map, vFun_func, vAgg_agg, vTup_tuple, vIfc_nil, vIfc_iface, lC_cons, lN_nil, aP_some, shO_none, shO_some, Option.isNone_none, Option.isNone_some, Bool.not_true, Bool.not_false]
  refine w_appS (P := P) O1 W1 0 1 (by decide) ti_ty_sl_uint8 ti_ty_uint8 ti_ty_string rfl rfl rfl (ofB_len l).symm (by omega) (by omega) fun b' cap' h3 μ3 ρ3 O3 W3 => ?_
  simp only [oB_some, bC_true, bC_false, vInt_int, vBool_bool, vStr_string, vPtr_pointer, vSl_slice, vMap_map, vFun_func, vAgg_agg, vTup_tuple, vIfc_nil, vIfc_iface, lC_cons, lN_nil, aP_some, shO_none, shO_some, Option.isNone_none, Option.isNone_some, Bool.not_true, Bool.not_false]
  refine w_wr O3 W3 2 (j := 1) rfl (Nat.le_of_ble_eq_true rfl) rfl fun h5 ρ5 O5 W5 => ?_
  refine hq _ _ _ b' cap' O5 (W5.eq ?_)
  have hsz : s.size = s.data.toList.length := rfl
  simp only [bldR, ← ofB_app, List.length_append, hsz]
  rfl
/-- Its bytes are taken for a string. -/
theorem bs_ok (O : Own h μ ρ) {p cap n1 n2 : Nat} {u : Option Addr} {b : Option Nat} {l : List UInt8} (W : Pcs ρ0 ρ (n1 :: n2 :: ns) (bldR p u b cap l rs)) (h1 : ρ0 n1 = none) (h2 : ρ0 n2 = none) (hl : l.length ≤ 1000000000) (hb : l = [] → b = none)
    (hq : ∀ h' ρ', Own h' μ ρ' → Pcs ρ0 ρ' ns (.var p [.pointer u, .slice (basA b) l.length cap] :: .ty p ty_strings_Builder :: rs) → Q (.string ⟨⟨l⟩⟩) h') : EvQ P f_p_strings_Builder_String [.pointer (some ⟨p, 0, none⟩)] h Q := by
  refine r_p_strings_Builder_String ?_
  simp only [aP_some]
  refine w_rd O W 2 (j := 1) rfl rfl ?_
  simp only [oB_some, bC_true, bC_false, vInt_int, vBool_bool, vStr_string, vPtr_pointer, vSl_slice, vMap_map, vFun_func, vAgg_agg, vTup_tuple, vIfc_nil, vIfc_iface, lC_cons, lN_nil, aP_some, shO_none, shO_some, Option.isNone_none, Option.isNone_some, Bool.not_true, Bool.not_false]
  by_cases h0 : l = []
  · have hb' := hb h0
    subst hb'
    subst h0
    simp only [basA]
    refine oB_bind (v := .pointer none) rfl ?_
    simp only [oB_some, bC_true, bC_false, vInt_int, vBool_bool, vStr_string, vPtr_pointer, vSl_slice, vMap_map, vFun_func, vAgg_agg, vTup_tuple, vIfc_nil, vIfc_iface, lC_cons, lN_nil, aP_some, shO_none, shO_some, Option.isNone_none, Option.isNone_some, Bool.not_true, Bool.not_false]
    refine w_rd O W 2 (j := 1) rfl rfl ?_
    simp only [oB_some, bC_true, bC_false, vInt_int, vBool_bool, vStr_string, vPtr_pointer, vSl_slice, vMap_map, vFun_func, vAgg_agg, vTup_tuple, vIfc_nil, vIfc_iface, lC_cons, lN_nil, aP_some, shO_none, shO_some, Option.isNone_none, Option.isNone_some, Bool.not_true, Bool.not_false]
    exact hq _ _ O ((W.tail h1).tail h2)
  · have hlen : 0 < l.length := List.length_pos_iff.2 h0
    have hcap : l.length ≤ cap := by have := w_cap O W 0 rfl; rw [ofB_len] at this; omega
    cases b with
    | none =>
      have M : OM h μ n1 none cap 1 (ofBytes l) := O.holds _ _ (W.at_ 0 _ _ rfl rfl)
      rcases M.mem with ⟨_, e⟩ | ⟨_, _, e, _⟩
      · omega
      · cases e
    | some i =>
      have hs : sdataB [.slice (some ⟨i, 0, none⟩) l.length cap] = some (.pointer (some ⟨i, 0, none⟩)) := by
        unfold sdataB
        simp only
        rw [show Nat.beq cap 0 = false from by rw [← Bool.not_eq_true, Nat.beq_eq]; omega]
      refine oB_bind hs ?_
      simp only [oB_some, bC_true, bC_false, vInt_int, vBool_bool, vStr_string, vPtr_pointer, vSl_slice, vMap_map, vFun_func, vAgg_agg, vTup_tuple, vIfc_nil, vIfc_iface, lC_cons, lN_nil, aP_some, shO_none, shO_some, Option.isNone_none, Option.isNone_some, Bool.not_true, Bool.not_false]
      refine w_rd O W 2 (j := 1) rfl rfl ?_
      simp only [oB_some, bC_true, bC_false, vInt_int, vBool_bool, vStr_string, vPtr_pointer, vSl_slice, vMap_map, vFun_func, vAgg_agg, vTup_tuple, vIfc_nil, vIfc_iface, lC_cons, lN_nil, aP_some, shO_none, shO_some, Option.isNone_none, Option.isNone_some, Bool.not_true, Bool.not_false]
      refine w_ustr (P := P) (bs := l) O W h1 h2 ti_ty_p_uint8 ti_ty_uint8 rfl rfl h0 (by omega) fun h3 ρ3 O3 W3 => ?_
      simp only [oB_some, bC_true, bC_false, vInt_int, vBool_bool, vStr_string, vPtr_pointer, vSl_slice, vMap_map, vFun_func, vAgg_agg, vTup_tuple, vIfc_nil, vIfc_iface, lC_cons, lN_nil, aP_some, shO_none, shO_some, Option.isNone_none, Option.isNone_some, Bool.not_true, Bool.not_false]
      exact hq _ _ O3 W3
/-- May a byte stand without quotes: as made, and as said. -/
theorem bare_ok {n : Nat} (hq : Q (.bool (bareN n)) h) : EvQ P f_lex_bare [.int .u8 (n : Int)] h Q := by
  refine r_lex_bare ?_
  have c : ∀ k : Nat, ((n : Int) == (k : Int)) = (n == k) := fun k => by
    rw [Bool.eq_iff_iff]; simp only [beq_iff_eq]; omega
  have c34 : ((n : Int) == 34) = (n == 34) := c 34
  have c35 : ((n : Int) == 35) = (n == 35) := c 35
  have c58 : ((n : Int) == 58) = (n == 58) := c 58
  have c61 : ((n : Int) == 61) = (n == 61) := c 61
  have c92 : ((n : Int) == 92) = (n == 92) := c 92
  unfold bareN at hq
  refine bC_iff (fun e => ?_) (fun e1 => ?_)
  · rw [c34] at e; rw [e] at hq; exact hq
  rw [c34] at e1
  refine bC_iff (fun e => ?_) (fun e2 => ?_)
  · rw [c35] at e; rw [e1, e] at hq; exact hq
  rw [c35] at e2
  refine bC_iff (fun e => ?_) (fun e3 => ?_)
  · rw [c58] at e; rw [e1, e2, e] at hq; exact hq
  rw [c58] at e3
  refine bC_iff (fun e => ?_) (fun e4 => ?_)
  · rw [c61] at e; rw [e1, e2, e3, e] at hq; exact hq
  rw [c61] at e4
  refine bC_iff (fun e => ?_) (fun e5 => ?_)
  · rw [c92] at e; rw [e1, e2, e3, e4, e] at hq; exact hq
  rw [c92] at e5
  rw [e1, e2, e3, e4, e5] at hq
  refine bC_iff (fun e => ?_) (fun e => ?_)
  · have e := of_decide_eq_true e
    rw [decide_eq_true (show 32 < n by omega)] at hq
    rw [show decide ((n : Int) < 127) = decide (n < 127) from by rw [Bool.eq_iff_iff]; simp only [decide_eq_true_eq]; omega]
    exact hq
  · have e := of_decide_eq_false e
    rw [decide_eq_false (show ¬ 32 < n by omega)] at hq
    exact hq
theorem rbare_ok {n : Nat} (hq : Q (.bool (bareN n)) h) : EvQ P f_brickyardref11_Bare [.int .u8 (n : Int)] h Q := by
  refine r_brickyardref11_Bare ?_
  have c : ∀ k : Nat, ((n : Int) != (k : Int)) = !(n == k) := fun k => by
    rw [Bool.eq_iff_iff]; simp only [bne_iff_ne, Bool.not_eq_true', beq_eq_false_iff_ne, ne_eq]; omega
  have c34 : ((n : Int) != 34) = !(n == 34) := c 34
  have c35 : ((n : Int) != 35) = !(n == 35) := c 35
  have c58 : ((n : Int) != 58) = !(n == 58) := c 58
  have c61 : ((n : Int) != 61) = !(n == 61) := c 61
  have c92 : ((n : Int) != 92) = !(n == 92) := c 92
  unfold bareN at hq
  refine bC_iff (fun e => ?_) (fun e => ?_)
  rotate_left
  · have e := of_decide_eq_false e
    rw [decide_eq_false (show ¬ 32 < n by omega)] at hq
    simp only [Bool.and_false, Bool.false_and] at hq
    exact hq
  have e := of_decide_eq_true e
  rw [decide_eq_true (show 32 < n by omega)] at hq
  refine bC_iff (fun e => ?_) (fun e => ?_)
  rotate_left
  · have e := of_decide_eq_false e
    rw [decide_eq_false (show ¬ n < 127 by omega)] at hq
    simp only [Bool.and_false] at hq
    exact hq
  have e := of_decide_eq_true e
  rw [decide_eq_true (show n < 127 by omega)] at hq
  simp only [Bool.and_true] at hq
  refine bC_iff (fun e => ?_) (fun e => ?_)
  rotate_left
  · rw [c34] at e; rw [e] at hq; exact hq
  rw [c34] at e
  rw [e] at hq
  refine bC_iff (fun e => ?_) (fun e => ?_)
  rotate_left
  · rw [c35] at e; rw [e] at hq; exact hq
  rw [c35] at e
  rw [e] at hq
  refine bC_iff (fun e => ?_) (fun e => ?_)
  rotate_left
  · rw [c58] at e; rw [e] at hq; exact hq
  rw [c58] at e
  rw [e] at hq
  refine bC_iff (fun e => ?_) (fun e => ?_)
  rotate_left
  · rw [c61] at e; rw [e] at hq; exact hq
  rw [c61] at e
  rw [e] at hq
  rw [c92]
  exact hq
theorem bAt_of {s : Str} {k : Nat} (hk : k < s.size) : bAt s k = some ((s.data.toList[k]'hk).toNat : Int) := by
  unfold bAt
  rw [Array.getElem?_eq_getElem (by exact hk)]
  simp
/-- A word that may stand without quotes. -/
theorem all_at {l : List UInt8} {k : Nat} (hk : k < l.length) (hp : ∀ j (hj : j < l.length), j < k → bareN (l[j]).toNat = true) : (bareN (l[k]).toNat = false → plainL l = false) ∧ (bareN (l[k]).toNat = true → ∀ j (hj : j < l.length), j < k + 1 → bareN (l[j]).toNat = true) := by
  refine ⟨fun h => ?_, fun h j hj hlt => ?_⟩
  · unfold plainL
    rw [Bool.and_eq_false_iff]
    left
    rw [← Bool.not_eq_true, List.all_eq_true]
    intro x
    have := x _ (List.getElem_mem hk)
    rw [h] at this
    cases this
  · by_cases e : j = k
    · subst e; exact h
    · exact hp j hj (by omega)
theorem all_end {s : Str} (hp : ∀ j (hj : j < s.data.toList.length), j < s.data.toList.length → bareN (s.data.toList[j]).toNat = true) : plainL s.data.toList = !bEq s ⟨#[]⟩ := by
  unfold plainL
  have h1 : (s.data.toList.all fun c => bareN c.toNat) = true := by
    rw [List.all_eq_true]
    intro c hc
    obtain ⟨j, hj, e⟩ := List.getElem_of_mem hc
    rw [← e]
    exact hp j hj hj
  rw [h1, Bool.true_and]
  congr 1
  rw [Bool.eq_iff_iff, bEq_iff, List.isEmpty_iff]
  constructor
  · intro h; exact ByteArray.ext (Array.toList_inj.1 h)
  · rintro rfl; rfl
theorem plain_loop {s : Str} (hs : s.size ≤ 1000000000) (hq : Q (.bool (plainL s.data.toList)) h) : ∀ (d k : Nat), s.size - k = d → k ≤ s.size → (∀ j (hj : j < s.data.toList.length), j < k → bareN (s.data.toList[j]).toNat = true) →
    unitAt P f_lex_Plain 2 [0, 5, 6] [.string s, .int .i64 (s.size : Int), .int .i64 (k : Int)] h Q := by
  have hlen : s.data.toList.length = s.size := rfl
  intro d
  induction d with
  | zero =>
    intro k hd hk hp
    refine r_lex_Plain_2 ?_
    rw [geI (by omega)]
    simp only [oB_some, bC_true, bC_false, vInt_int, vBool_bool, vStr_string, vPtr_pointer, vSl_slice, vMap_map, vFun_func, vAgg_agg, vTup_tuple, vIfc_nil, vIfc_iface, lC_cons, lN_nil, aP_some, shO_none, shO_some, Option.isNone_none, Option.isNone_some, Bool.not_true, Bool.not_false]
    rw [all_end fun j hj _ => hp j hj (by omega)] at hq
    exact hq
  | succ d ih =>
    intro k hd hk hp
    have hlt : k < s.size := by omega
    refine r_lex_Plain_2 ?_
    rw [ltI hlt, natIdx_eq hlt]
    simp only [oB_some, bC_true, bC_false, vInt_int, vBool_bool, vStr_string, vPtr_pointer, vSl_slice, vMap_map, vFun_func, vAgg_agg, vTup_tuple, vIfc_nil, vIfc_iface, lC_cons, lN_nil, aP_some, shO_none, shO_some, Option.isNone_none, Option.isNone_some, Bool.not_true, Bool.not_false]
    refine oB_bind (bAt_of hlt) ?_
    refine bare_ok ?_
    simp only [oB_some, bC_true, bC_false, vInt_int, vBool_bool, vStr_string, vPtr_pointer, vSl_slice, vMap_map, vFun_func, vAgg_agg, vTup_tuple, vIfc_nil, vIfc_iface, lC_cons, lN_nil, aP_some, shO_none, shO_some, Option.isNone_none, Option.isNone_some, Bool.not_true, Bool.not_false]
    obtain ⟨a1, a2⟩ := all_at (l := s.data.toList) hlt hp
    refine bC_iff (fun e => ?_) (fun e => ?_)
    · rw [a1 (by simpa using e)] at hq
      exact hq
    · rw [wrapS (by omega)]
      exact ih (k + 1) (by omega) (by omega) (a2 (by simpa using e))
theorem rplain_loop {s : Str} (hs : s.size ≤ 1000000000) (hq : Q (.bool (plainL s.data.toList)) h) : ∀ (d k : Nat), s.size - k = d → k ≤ s.size → (∀ j (hj : j < s.data.toList.length), j < k → bareN (s.data.toList[j]).toNat = true) →
    unitAt P f_brickyardref11_Plain 2 [0, 3] [.string s, .int .i64 (k : Int)] h Q := by
  have hlen : s.data.toList.length = s.size := rfl
  intro d
  induction d with
  | zero =>
    intro k hd hk hp
    refine r_brickyardref11_Plain_2 ?_
    rw [geI (by omega)]
    simp only [oB_some, bC_true, bC_false, vInt_int, vBool_bool, vStr_string, vPtr_pointer, vSl_slice, vMap_map, vFun_func, vAgg_agg, vTup_tuple, vIfc_nil, vIfc_iface, lC_cons, lN_nil, aP_some, shO_none, shO_some, Option.isNone_none, Option.isNone_some, Bool.not_true, Bool.not_false]
    rw [all_end fun j hj _ => hp j hj (by omega)] at hq
    rw [show decide ((s.size : Int) > 0) = !bEq s ⟨#[]⟩ from by
      rw [Bool.eq_iff_iff, decide_eq_true_eq, Bool.not_eq_true', bEq_false]
      constructor
      · rintro x rfl; exact absurd x (by decide)
      · intro x
        rcases Nat.eq_zero_or_pos s.size with z | z
        · exact absurd (ByteArray.ext (Array.eq_empty_of_size_eq_zero z)) x
        · omega]
    exact hq
  | succ d ih =>
    intro k hd hk hp
    have hlt : k < s.size := by omega
    refine r_brickyardref11_Plain_2 ?_
    rw [ltI hlt, natIdx_eq hlt]
    simp only [oB_some, bC_true, bC_false, vInt_int, vBool_bool, vStr_string, vPtr_pointer, vSl_slice, vMap_map, vFun_func, vAgg_agg, vTup_tuple, vIfc_nil, vIfc_iface, lC_cons, lN_nil, aP_some, shO_none, shO_some, Option.isNone_none, Option.isNone_some, Bool.not_true, Bool.not_false]
    refine oB_bind (bAt_of hlt) ?_
    refine rbare_ok ?_
    simp only [oB_some, bC_true, bC_false, vInt_int, vBool_bool, vStr_string, vPtr_pointer, vSl_slice, vMap_map, vFun_func, vAgg_agg, vTup_tuple, vIfc_nil, vIfc_iface, lC_cons, lN_nil, aP_some, shO_none, shO_some, Option.isNone_none, Option.isNone_some, Bool.not_true, Bool.not_false]
    obtain ⟨a1, a2⟩ := all_at (l := s.data.toList) hlt hp
    refine bC_iff (fun e => ?_) (fun e => ?_)
    · rw [a1 (by simpa using e)] at hq
      exact hq
    · rw [wrapS (by omega)]
      exact ih (k + 1) (by omega) (by omega) (a2 (by simpa using e))
end Go.Proofs.YtgdkekdedgkglaaDoor
end

section
/- Words as text, quoted or not: as made, and as said. -/
namespace Go.Proofs.YtgdkekdedgkglaaDoor
open Go.Abs Go.Abs.Fo
set_option maxRecDepth 100000
attribute [local irreducible] unitAt EvQ
variable {h : AW} {μ : Paint} {ρ0 ρ : Store} {Q : Value → AW → Prop} {ns : List Nat} {rs : List Res}
theorem quote_le (l : List UInt8) : (quoteL l).length ≤ 2 * l.length + 2 := by
  have := flat_len l
  simp only [quoteL, List.length_cons, List.length_append, List.length_nil]
  omega
theorem quote_4 {s : Str} (hs : s.size ≤ 100000000) {p n1 n2 n3 n4 : Nat} (h1 : ρ n1 = none) (h2 : ρ n2 = none) (h3 : ρ n3 = none) (h4 : ρ n4 = none) (hq : RdQ Q ρ (.string ⟨⟨quoteL s.data.toList⟩⟩)) :
    ∀ (d k : Nat) {h : AW} {μ : Paint} {ρ' : Store} {acc : List UInt8} {b : Option Nat} {cap : Nat}, s.size - k = d → k ≤ s.size → Own h μ ρ' → Pcs ρ ρ' [n1, n2, n3, n4] (bldR p (some ⟨p, 0, none⟩) b cap acc []) → acc ≠ [] → acc ++ ((s.data.toList.drop k).flatMap escL ++ [34]) = quoteL s.data.toList →
      unitAt P f_lex_Quote 4 [0, 3, 8, 9] [.string s, .pointer (some ⟨p, 0, none⟩), .int .i64 (s.size : Int), .int .i64 (k : Int)] h Q := by
  have hlen : s.data.toList.length = s.size := rfl
  have hql := quote_le s.data.toList
  intro d
  induction d with
  | zero =>
    intro k h μ ρ' acc b cap hd hk O W h0 ha
    have hacc : acc.length ≤ 1000000000 := by
      have := congrArg List.length ha
      simp only [List.length_append] at this
      omega
    rw [List.drop_eq_nil_of_le (by omega), List.flatMap_nil, List.nil_append] at ha
    refine r_lex_Quote_4 ?_
    rw [geI (by omega)]
    simp only [oB_some, bC_true, bC_false, vInt_int, vBool_bool, vStr_string, vPtr_pointer, vSl_slice, vMap_map, vFun_func, vAgg_agg, vTup_tuple, vIfc_nil, vIfc_iface, lC_cons, lN_nil, aP_some, shO_none, shO_some, Option.isNone_none, Option.isNone_some, Bool.not_true, Bool.not_false]
    refine wb_ok O W (.inr rfl) 34 rfl hacc fun h5 μ5 ρ5 b5 cap5 O5 W5 => ?_
    simp only [oB_some, bC_true, bC_false, vInt_int, vBool_bool, vStr_string, vPtr_pointer, vSl_slice, vMap_map, vFun_func, vAgg_agg, vTup_tuple, vIfc_nil, vIfc_iface, lC_cons, lN_nil, aP_some, shO_none, shO_some, Option.isNone_none, Option.isNone_some, Bool.not_true, Bool.not_false]
    rw [ha] at W5
    refine bs_ok O5 W5 h1 h2 (by omega) (fun e => by rw [← ha] at e; simp at e) fun h6 ρ6 O6 W6 => ?_
    simp only [oB_some, bC_true, bC_false, vInt_int, vBool_bool, vStr_string, vPtr_pointer, vSl_slice, vMap_map, vFun_func, vAgg_agg, vTup_tuple, vIfc_nil, vIfc_iface, lC_cons, lN_nil, aP_some, shO_none, shO_some, Option.isNone_none, Option.isNone_some, Bool.not_true, Bool.not_false]
    exact hq _ _ _ O6 (W6.fra0 fun c hc => by simp at hc; rcases hc with rfl | rfl <;> assumption)
  | succ d ih =>
    intro k h μ ρ' acc b cap hd hk O W h0 ha
    have hlt : k < s.size := by omega
    have hacc : acc.length ≤ 1000000000 := by
      have := congrArg List.length ha
      simp only [List.length_append] at this
      omega
    rw [List.drop_eq_getElem_cons hlt, List.flatMap_cons] at ha
    refine r_lex_Quote_4 ?_
    rw [ltI hlt, natIdx_eq hlt]
    simp only [oB_some, bC_true, bC_false, vInt_int, vBool_bool, vStr_string, vPtr_pointer, vSl_slice, vMap_map, vFun_func, vAgg_agg, vTup_tuple, vIfc_nil, vIfc_iface, lC_cons, lN_nil, aP_some, shO_none, shO_some, Option.isNone_none, Option.isNone_some, Bool.not_true, Bool.not_false]
    refine oB_bind (bAt_of hlt) ?_
    generalize hc : s.data.toList[k]'hlt = c at ha ⊢
    have cc : ∀ m : UInt8, ((c.toNat : Int) == (m.toNat : Int)) = decide (c = m) := fun m => by
      rw [Bool.eq_iff_iff, beq_iff_eq, decide_eq_true_eq, ← UInt8.toNat_inj]; omega
    have c10 : ((c.toNat : Int) == 10) = decide (c = 10) := cc 10
    have c9 : ((c.toNat : Int) == 9) = decide (c = 9) := cc 9
    have c34 : ((c.toNat : Int) == 34) = decide (c = 34) := cc 34
    have c92 : ((c.toNat : Int) == 92) = decide (c = 92) := cc 92
    have next : ∀ {h : AW} {μ : Paint} {ρ' : Store} {e : List UInt8} {b : Option Nat} {cap : Nat}, Own h μ ρ' → Pcs ρ ρ' [n1, n2, n3, n4] (bldR p (some ⟨p, 0, none⟩) b cap (acc ++ e) []) → escL c = e →
        unitAt P f_lex_Quote 4 [0, 3, 8, 9] [.string s, .pointer (some ⟨p, 0, none⟩), .int .i64 (s.size : Int), .int .i64 (IntKind.wrap .i64 ((k : Int) + 1))] h Q := fun {h μ ρ' e b cap} O W he => by
      rw [wrapS (by omega)]
      refine ih (k + 1) (by omega) (by omega) O W (by simp [h0]) ?_
      rw [← he, List.append_assoc, ← List.append_assoc (escL c)]
      exact ha
    have plain : ∀ {h : AW} {μ : Paint} {ρ' : Store} {e : List UInt8} {b : Option Nat} {cap : Nat}, Own h μ ρ' → Pcs ρ ρ' [n1, n2, n3, n4] (bldR p (some ⟨p, 0, none⟩) b cap (acc ++ e) []) → escL c = e ++ [c] → e.length ≤ 1 →
        unitAt P f_lex_Quote 15 [0, 3, 5, 8, 9] [.string s, .pointer (some ⟨p, 0, none⟩), .int .u8 (c.toNat : Int), .int .i64 (s.size : Int), .int .i64 (k : Int)] h Q := fun {h μ ρ' e b cap} O W he hl => by
      refine r_lex_Quote_15 ?_
      refine wb_ok O W (.inr rfl) c rfl ?_ fun h5 μ5 ρ5 b5 cap5 O5 W5 => ?_
      · have := congrArg List.length ha
        simp only [List.length_append] at this ⊢
        omega
      simp only [oB_some, bC_true, bC_false, vInt_int, vBool_bool, vStr_string, vPtr_pointer, vSl_slice, vMap_map, vFun_func, vAgg_agg, vTup_tuple, vIfc_nil, vIfc_iface, lC_cons, lN_nil, aP_some, shO_none, shO_some, Option.isNone_none, Option.isNone_some, Bool.not_true, Bool.not_false]
      rw [List.append_assoc] at W5
      exact next O5 W5 he
    refine bC_iff (fun e => ?_) (fun e1 => ?_)
    · rw [c10, decide_eq_true_eq] at e
      refine ws_ok O W (.inr rfl) ⟨#[92, 110]⟩ hacc (by decide) fun h5 μ5 ρ5 b5 cap5 O5 W5 => ?_
      simp only [oB_some, bC_true, bC_false, vInt_int, vBool_bool, vStr_string, vPtr_pointer, vSl_slice, vMap_map, vFun_func, vAgg_agg, vTup_tuple, vIfc_nil, vIfc_iface, lC_cons, lN_nil, aP_some, shO_none, shO_some, Option.isNone_none, Option.isNone_some, Bool.not_true, Bool.not_false]
      exact next O5 W5 (by rw [e]; rfl)
    rw [c10, decide_eq_false_iff_not] at e1
    refine bC_iff (fun e => ?_) (fun e2 => ?_)
    · rw [c9, decide_eq_true_eq] at e
      refine ws_ok O W (.inr rfl) ⟨#[92, 116]⟩ hacc (by decide) fun h5 μ5 ρ5 b5 cap5 O5 W5 => ?_
      simp only [oB_some, bC_true, bC_false, vInt_int, vBool_bool, vStr_string, vPtr_pointer, vSl_slice, vMap_map, vFun_func, vAgg_agg, vTup_tuple, vIfc_nil, vIfc_iface, lC_cons, lN_nil, aP_some, shO_none, shO_some, Option.isNone_none, Option.isNone_some, Bool.not_true, Bool.not_false]
      exact next O5 W5 (by rw [e]; rfl)
    rw [c9, decide_eq_false_iff_not] at e2
    have u14 : escL c = [92] ++ [c] → unitAt P f_lex_Quote 14 [0, 3, 5, 8, 9] [.string s, .pointer (some ⟨p, 0, none⟩), .int .u8 (c.toNat : Int), .int .i64 (s.size : Int), .int .i64 (k : Int)] h Q := fun he => by
      refine r_lex_Quote_14 ?_
      refine wb_ok O W (.inr rfl) 92 rfl hacc fun h5 μ5 ρ5 b5 cap5 O5 W5 => ?_
      simp only [oB_some, bC_true, bC_false, vInt_int, vBool_bool, vStr_string, vPtr_pointer, vSl_slice, vMap_map, vFun_func, vAgg_agg, vTup_tuple, vIfc_nil, vIfc_iface, lC_cons, lN_nil, aP_some, shO_none, shO_some, Option.isNone_none, Option.isNone_some, Bool.not_true, Bool.not_false]
      exact plain O5 W5 he (by simp)
    refine bC_iff (fun e => ?_) (fun e3 => ?_)
    · rw [c34, decide_eq_true_eq] at e
      exact u14 (by rw [e]; rfl)
    rw [c34, decide_eq_false_iff_not] at e3
    refine bC_iff (fun e => ?_) (fun e4 => ?_)
    · rw [c92, decide_eq_true_eq] at e
      exact u14 (by rw [e]; rfl)
    rw [c92, decide_eq_false_iff_not] at e4
    have W' : Pcs ρ ρ' [n1, n2, n3, n4] (bldR p (some ⟨p, 0, none⟩) b cap (acc ++ []) []) := by rw [List.append_nil]; exact W
    exact plain O W' (by unfold escL; rw [if_neg e1, if_neg e2, if_neg e3, if_neg e4]; rfl) (by simp)
/-- A new builder. -/
theorem new_bld (O : Own h μ ρ) (W : Pcs ρ0 ρ ns rs) : ∃ μ' ρ' n1 n2 n3 n4, Own ((h.addVar [.pointer none, .slice none 0 0]).tag h.next ty_strings_Builder) μ' ρ' ∧ Pcs ρ0 ρ' (n1 :: n2 :: n3 :: n4 :: ns) (bldR h.next none none 0 [] rs) ∧ ρ0 n1 = none ∧ ρ0 n2 = none ∧ ρ0 n3 = none ∧ ρ0 n4 = none := by
  obtain ⟨μ1, ρ1, c, d, O1, W1, hc, hd⟩ := w_newT O W [.pointer none, .slice none 0 0] ty_strings_Builder
  have W1 := W1.swap2
  obtain ⟨ρ2, e, O2, W2, he⟩ := w_many O1 W1
  obtain ⟨ρ3, f, O3, W3, hf⟩ := w_nil O2 W2 1
  exact ⟨_, _, f, e, c, d, O3, W3, hf, he, hc, hd⟩
theorem quote_ok (O : Own h μ ρ) {s : Str} (hs : s.size ≤ 100000000) (hq : RdQ Q ρ (.string ⟨⟨quoteL s.data.toList⟩⟩)) : EvQ P f_lex_Quote [.string s] h Q := by
  refine r_lex_Quote ?_
  obtain ⟨μ1, ρ1, n1, n2, n3, n4, O1, W1, h1, h2, h3, h4⟩ := new_bld O p00
  refine wb_ok O1 W1 (.inl rfl) 34 rfl (by simp) fun h5 μ5 ρ5 b5 cap5 O5 W5 => ?_
  simp only [oB_some, bC_true, bC_false, vInt_int, vBool_bool, vStr_string, vPtr_pointer, vSl_slice, vMap_map, vFun_func, vAgg_agg, vTup_tuple, vIfc_nil, vIfc_iface, lC_cons, lN_nil, aP_some, shO_none, shO_some, Option.isNone_none, Option.isNone_some, Bool.not_true, Bool.not_false]
  exact quote_4 hs h1 h2 h3 h4 hq _ 0 rfl (Nat.zero_le _) O5 W5 (by simp) rfl
theorem show_ok (O : Own h μ ρ) {s : Str} (hs : s.size ≤ 100000000) (hq : RdQ Q ρ (.string ⟨⟨showL s.data.toList⟩⟩)) : EvQ P f_lex_Show [.string s] h Q := by
  refine r_lex_Show (r_lex_Plain (plain_loop (by omega) ?_ _ 0 rfl (Nat.zero_le _) fun j _ hj => by omega))
  simp only [oB_some, bC_true, bC_false, vInt_int, vBool_bool, vStr_string, vPtr_pointer, vSl_slice, vMap_map, vFun_func, vAgg_agg, vTup_tuple, vIfc_nil, vIfc_iface, lC_cons, lN_nil, aP_some, shO_none, shO_some, Option.isNone_none, Option.isNone_some, Bool.not_true, Bool.not_false]
  unfold showL at hq
  refine bC_iff (fun e => ?_) (fun e => ?_)
  · rw [if_pos e] at hq
    exact hq.now O
  · rw [if_neg (by rw [e]; decide)] at hq
    refine quote_ok O hs fun h1 μ1 ρ1 O1 F1 => ?_
    simp only [oB_some, bC_true, bC_false, vInt_int, vBool_bool, vStr_string, vPtr_pointer, vSl_slice, vMap_map, vFun_func, vAgg_agg, vTup_tuple, vIfc_nil, vIfc_iface, lC_cons, lN_nil, aP_some, shO_none, shO_some, Option.isNone_none, Option.isNone_some, Bool.not_true, Bool.not_false]
    exact hq _ _ _ O1 F1
/-! As said. -/
theorem byt_app (O : Own h μ ρ) (W : Pcs ρ0 ρ ns rs) (i : Nat) {a : Option Addr} {cap n : Nat} {l e : List UInt8} (hi : rs[i]? = some (.sl a cap 1 (ofBytes l))) (hn : n = e.length) (hl : l.length + e.length ≤ 1000000000) {f : Value → AW → Prop}
    (H : ∀ h' μ' ρ' a' cap', Own h' μ' ρ' → Pcs ρ0 ρ' ns (rs.set i (.sl a' cap' 1 (ofBytes (l ++ e)))) → f (.slice a' (l.length + n) cap') h') : oP (appendB P (AW.addVar h (ofBytes e)) ⟨[ty_sl_uint8, ty_sl_uint8]⟩ [.slice a l.length cap, .slice (some ⟨AW.next h, 0, none⟩) n n]) f := by
  subst hn
  obtain ⟨μ2, ρ2, c2, O2, W2, hc2⟩ := w_block O W (ofBytes e) (n := e.length) (sz := 1) (by rw [ofB_len, Nat.mul_one]) (one_bytes _)
  refine w_app (P := P) O2 W2 (i + 1) (n := l.length) (m := e.length) ti_ty_sl_uint8 ti_ty_uint8 (by decide) (by simpa using hi) (by rw [ofB_len, Nat.mul_one]) (w_sl O2 W2 0 rfl) (by rw [ofB_len, Nat.mul_one]) (one_bytes _) (by omega) (by omega) fun a' cap' h3 μ3 ρ3 O3 W3 => ?_
  refine H _ _ _ a' cap' O3 ?_
  have := W3.tail hc2
  rw [ofB_app] at this
  exact this
theorem w_bytes (O : Own h μ ρ) (W : Pcs ρ0 ρ ns rs) (i : Nat) {a : Option Addr} {cap : Nat} {l : List UInt8} (hi : rs[i]? = some (.sl a cap 1 (ofBytes l))) : AW.bytes h a l.length = some ⟨⟨l⟩⟩ := by
  rcases w_sl O W i hi with ⟨rfl, e⟩ | ⟨b, off, rfl, hr⟩
  · have : l = [] := List.eq_nil_of_length_eq_zero (by rw [← ofB_len, e]; rfl)
    subst this
    rfl
  · refine bytes_of l fun j hj => ?_
    rw [hr j (by rw [ofB_len]; exact hj)]
    unfold ofBytes
    rw [List.getElem?_map, List.getElem?_eq_getElem hj]
    rfl
theorem rquote_3 {s : Str} (hs : s.size ≤ 100000000) {n1 : Nat} (h1 : ρ n1 = none) (hq : RdQ Q ρ (.string ⟨⟨quoteL s.data.toList⟩⟩)) :
    ∀ (d k : Nat) {h : AW} {μ : Paint} {ρ' : Store} {acc : List UInt8} {a : Option Addr} {cap : Nat}, s.size - k = d → k ≤ s.size → Own h μ ρ' → Pcs ρ ρ' [n1] [.sl a cap 1 (ofBytes acc)] → acc ++ ((s.data.toList.drop k).flatMap escL ++ [34]) = quoteL s.data.toList →
      unitAt P f_brickyardref11_Quote 3 [0, 3, 4] [.string s, .slice a acc.length cap, .int .i64 (k : Int)] h Q := by
  have hlen : s.data.toList.length = s.size := rfl
  have hql := quote_le s.data.toList
  intro d
  induction d with
  | zero =>
    intro k h μ ρ' acc a cap hd hk O W ha
    have hacc : acc.length ≤ 500000000 := by
      have := congrArg List.length ha
      simp only [List.length_append] at this
      omega
    rw [List.drop_eq_nil_of_le (by omega), List.flatMap_nil, List.nil_append] at ha
    refine r_brickyardref11_Quote_3 ?_
    rw [geI (by omega)]
    simp only [oB_some, bC_true, bC_false, vInt_int, vBool_bool, vStr_string, vPtr_pointer, vSl_slice, vMap_map, vFun_func, vAgg_agg, vTup_tuple, vIfc_nil, vIfc_iface, lC_cons, lN_nil, aP_some, shO_none, shO_some, Option.isNone_none, Option.isNone_some, Bool.not_true, Bool.not_false]
    refine byt_app O W 0 (e := [34]) rfl rfl (by simp; omega) fun h5 μ5 ρ5 a5 cap5 O5 W5 => ?_
    simp only [oB_some, bC_true, bC_false, vInt_int, vBool_bool, vStr_string, vPtr_pointer, vSl_slice, vMap_map, vFun_func, vAgg_agg, vTup_tuple, vIfc_nil, vIfc_iface, lC_cons, lN_nil, aP_some, shO_none, shO_some, Option.isNone_none, Option.isNone_some, Bool.not_true, Bool.not_false]
    rw [ha] at W5
    have hb := w_bytes O5 W5 0 rfl
    rw [← ha, List.length_append] at hb
    refine oB_bind hb ?_
    rw [ha]
    exact hq _ _ _ O5 (W5.fra0 fun c hc => by simp at hc; rw [hc]; exact h1)
  | succ d ih =>
    intro k h μ ρ' acc a cap hd hk O W ha
    have hlt : k < s.size := by omega
    have hacc : acc.length ≤ 500000000 := by
      have := congrArg List.length ha
      simp only [List.length_append] at this
      omega
    rw [List.drop_eq_getElem_cons hlt, List.flatMap_cons] at ha
    have hx := bAt_of hlt
    generalize hc : s.data.toList[k]'hlt = c at ha hx
    have cc : ∀ m : UInt8, ((c.toNat : Int) == (m.toNat : Int)) = decide (c = m) := fun m => by
      rw [Bool.eq_iff_iff, beq_iff_eq, decide_eq_true_eq, ← UInt8.toNat_inj]; omega
    have c10 : ((c.toNat : Int) == 10) = decide (c = 10) := cc 10
    have c9 : ((c.toNat : Int) == 9) = decide (c = 9) := cc 9
    have c34 : ((c.toNat : Int) == 34) = decide (c = 34) := cc 34
    have c92 : ((c.toNat : Int) == 92) = decide (c = 92) := cc 92
    have next : ∀ {h : AW} {μ : Paint} {ρ' : Store} {e : List UInt8} {a : Option Addr} {cap m : Nat}, Own h μ ρ' → Pcs ρ ρ' [n1] [.sl a cap 1 (ofBytes (acc ++ e))] → escL c = e → m = e.length →
        unitAt P f_brickyardref11_Quote 3 [0, 3, 4] [.string s, .slice a (acc.length + m) cap, .int .i64 (IntKind.wrap .i64 ((k : Int) + 1))] h Q := fun {h μ ρ' e a cap m} O W he hm => by
      subst hm
      rw [wrapS (by omega), ← List.length_append]
      refine ih (k + 1) (by omega) (by omega) O W ?_
      rw [← he, List.append_assoc, ← List.append_assoc (escL c)]
      exact ha
    have u9 : escL c = [92, c] → unitAt P f_brickyardref11_Quote 9 [0, 3, 4] [.string s, .slice a acc.length cap, .int .i64 (k : Int)] h Q := fun he => by
      refine r_brickyardref11_Quote_9 ?_
      rw [natIdx_eq hlt]
      simp only [oB_some, bC_true, bC_false, vInt_int, vBool_bool, vStr_string, vPtr_pointer, vSl_slice, vMap_map, vFun_func, vAgg_agg, vTup_tuple, vIfc_nil, vIfc_iface, lC_cons, lN_nil, aP_some, shO_none, shO_some, Option.isNone_none, Option.isNone_some, Bool.not_true, Bool.not_false]
      refine oB_bind hx ?_
      refine byt_app O W 0 (e := [92, c]) rfl rfl (by simp; omega) fun h5 μ5 ρ5 a5 cap5 O5 W5 => ?_
      simp only [oB_some, bC_true, bC_false, vInt_int, vBool_bool, vStr_string, vPtr_pointer, vSl_slice, vMap_map, vFun_func, vAgg_agg, vTup_tuple, vIfc_nil, vIfc_iface, lC_cons, lN_nil, aP_some, shO_none, shO_some, Option.isNone_none, Option.isNone_some, Bool.not_true, Bool.not_false]
      exact next O5 W5 he rfl
    refine r_brickyardref11_Quote_3 ?_
    rw [ltI hlt, natIdx_eq hlt]
    simp only [oB_some, bC_true, bC_false, vInt_int, vBool_bool, vStr_string, vPtr_pointer, vSl_slice, vMap_map, vFun_func, vAgg_agg, vTup_tuple, vIfc_nil, vIfc_iface, lC_cons, lN_nil, aP_some, shO_none, shO_some, Option.isNone_none, Option.isNone_some, Bool.not_true, Bool.not_false]
    refine oB_bind hx ?_
    refine bC_iff (fun e => ?_) (fun e3 => ?_)
    · rw [c34, decide_eq_true_eq] at e
      exact u9 (by rw [e]; rfl)
    rw [c34, decide_eq_false_iff_not] at e3
    refine bC_iff (fun e => ?_) (fun e4 => ?_)
    · rw [c92, decide_eq_true_eq] at e
      exact u9 (by rw [e]; rfl)
    rw [c92, decide_eq_false_iff_not] at e4
    refine r_brickyardref11_Quote_10 ?_
    refine bC_iff (fun e => ?_) (fun e1 => ?_)
    · rw [c10, decide_eq_true_eq] at e
      refine byt_app O W 0 (e := [92, 110]) rfl rfl (by simp; omega) fun h5 μ5 ρ5 a5 cap5 O5 W5 => ?_
      simp only [oB_some, bC_true, bC_false, vInt_int, vBool_bool, vStr_string, vPtr_pointer, vSl_slice, vMap_map, vFun_func, vAgg_agg, vTup_tuple, vIfc_nil, vIfc_iface, lC_cons, lN_nil, aP_some, shO_none, shO_some, Option.isNone_none, Option.isNone_some, Bool.not_true, Bool.not_false]
      exact next O5 W5 (by rw [e]; rfl) rfl
    rw [c10, decide_eq_false_iff_not] at e1
    refine bC_iff (fun e => ?_) (fun e2 => ?_)
    · rw [c9, decide_eq_true_eq] at e
      refine byt_app O W 0 (e := [92, 116]) rfl rfl (by simp; omega) fun h5 μ5 ρ5 a5 cap5 O5 W5 => ?_
      simp only [oB_some, bC_true, bC_false, vInt_int, vBool_bool, vStr_string, vPtr_pointer, vSl_slice, vMap_map, vFun_func, vAgg_agg, vTup_tuple, vIfc_nil, vIfc_iface, lC_cons, lN_nil, aP_some, shO_none, shO_some, Option.isNone_none, Option.isNone_some, Bool.not_true, Bool.not_false]
      exact next O5 W5 (by rw [e]; rfl) rfl
    rw [c9, decide_eq_false_iff_not] at e2
    rw [natIdx_eq hlt]
    simp only [oB_some, bC_true, bC_false, vInt_int, vBool_bool, vStr_string, vPtr_pointer, vSl_slice, vMap_map, vFun_func, vAgg_agg, vTup_tuple, vIfc_nil, vIfc_iface, lC_cons, lN_nil, aP_some, shO_none, shO_some, Option.isNone_none, Option.isNone_some, Bool.not_true, Bool.not_false]
    refine oB_bind hx ?_
    refine byt_app O W 0 (e := [c]) rfl rfl (by simp; omega) fun h5 μ5 ρ5 a5 cap5 O5 W5 => ?_
    simp only [oB_some, bC_true, bC_false, vInt_int, vBool_bool, vStr_string, vPtr_pointer, vSl_slice, vMap_map, vFun_func, vAgg_agg, vTup_tuple, vIfc_nil, vIfc_iface, lC_cons, lN_nil, aP_some, shO_none, shO_some, Option.isNone_none, Option.isNone_some, Bool.not_true, Bool.not_false]
    exact next O5 W5 (by unfold escL; rw [if_neg e1, if_neg e2, if_neg e3, if_neg e4]) rfl
theorem rquote_ok (O : Own h μ ρ) {s : Str} (hs : s.size ≤ 100000000) (hq : RdQ Q ρ (.string ⟨⟨quoteL s.data.toList⟩⟩)) : EvQ P f_brickyardref11_Quote [.string s] h Q := by
  refine r_brickyardref11_Quote ?_
  obtain ⟨μ2, ρ2, c2, O2, W2, hc2⟩ := w_block O p00 (ofBytes [34]) (n := 1) (sz := 1) rfl rfl
  exact rquote_3 hs hc2 hq _ 0 (acc := [34]) rfl (Nat.zero_le _) O2 W2 rfl
theorem rshow_ok (O : Own h μ ρ) {s : Str} (hs : s.size ≤ 100000000) (hq : RdQ Q ρ (.string ⟨⟨showL s.data.toList⟩⟩)) : EvQ P f_brickyardref11_Show [.string s] h Q := by
  refine r_brickyardref11_Show (r_brickyardref11_Plain (rplain_loop (by omega) ?_ _ 0 rfl (Nat.zero_le _) fun j _ hj => by omega))
  simp only [oB_some, bC_true, bC_false, vInt_int, vBool_bool, vStr_string, vPtr_pointer, vSl_slice, vMap_map, vFun_func, vAgg_agg, vTup_tuple, vIfc_nil, vIfc_iface, lC_cons, lN_nil, aP_some, shO_none, shO_some, Option.isNone_none, Option.isNone_some, Bool.not_true, Bool.not_false]
  unfold showL at hq
  refine bC_iff (fun e => ?_) (fun e => ?_)
  · rw [if_pos e] at hq
    exact hq.now O
  · rw [if_neg (by rw [e]; decide)] at hq
    refine rquote_ok O hs fun h1 μ1 ρ1 O1 F1 => ?_
    simp only [oB_some, bC_true, bC_false, vInt_int, vBool_bool, vStr_string, vPtr_pointer, vSl_slice, vMap_map, vFun_func, vAgg_agg, vTup_tuple, vIfc_nil, vIfc_iface, lC_cons, lN_nil, aP_some, shO_none, shO_some, Option.isNone_none, Option.isNone_some, Bool.not_true, Bool.not_false]
    exact hq _ _ _ O1 F1
end Go.Proofs.YtgdkekdedgkglaaDoor
end

section
/- The same lines; an action's text. -/
namespace Go.Proofs.YtgdkekdedgkglaaDoor
open Go.Abs Go.Abs.Fo
set_option maxRecDepth 100000
attribute [local irreducible] unitAt EvQ
variable {h : AW} {μ : Paint} {ρ ρ' : Store} {Q : Value → AW → Prop}
theorem oP_bind {x : Option (Value × AW)} {v : Value} {h' : AW} {f : Value → AW → Prop} (e : x = some (v, h')) (H : f v h') : oP x f := by rw [e]; exact H
theorem x_at {ps qs : List Wds} (e : ps.map Wds.x = qs.map Wds.x) {j : Nat} (h1 : j < ps.length) (h2 : j < qs.length) : ps[j].x = qs[j].x := by
  have := congrArg (fun l => l[j]?) e
  simpa [List.getElem?_map, List.getElem?_eq_getElem h1, List.getElem?_eq_getElem h2] using this
theorem alike_9 (O : Own h μ ρ) {ps qs : List Wds} {a b : Option Addr} {ca cb : Nat} (X : Lns ρ ps a) (Y : Lns ρ qs b) (e : ps.map Wds.x = qs.map Wds.x) (hl : ps.length ≤ 1000000) {i : Nat} (hi : i < ps.length) (hw : ps[i].x.length ≤ 20000000)
    (fin : unitAt P f_brickyardref13_Alike 4 [0, 1, 5] [.slice a ps.length ca, .slice b qs.length cb, .int .i64 ((i + 1 : Nat) : Int)] h Q) :
    ∀ (d k : Nat), ps[i].x.length - k = d → k ≤ ps[i].x.length → unitAt P f_brickyardref13_Alike 9 [0, 1, 5, 6] [.slice a ps.length ca, .slice b qs.length cb, .int .i64 (i : Int), .int .i64 (k : Int)] h Q := by
  have hlen : ps.length = qs.length := by have := congrArg List.length e; simpa using this
  have hi2 : i < qs.length := by omega
  have ex := x_at e hi hi2
  intro d
  induction d with
  | zero =>
    intro k hd hk
    refine r_brickyardref13_Alike_9 ?_
    refine ln_at O X rfl rfl hi fun _ => ?_
    rw [show decide ((k : Int) < (ps[i].x.length : Int)) = false from decide_eq_false (by omega)]
    simp only [oB_some, bC_true, bC_false, vInt_int, vBool_bool, vStr_string, vPtr_pointer, vSl_slice, vMap_map, vFun_func, vAgg_agg, vTup_tuple, vIfc_nil, vIfc_iface, lC_cons, lN_nil, aP_some, shO_none, shO_some, Option.isNone_none, Option.isNone_some, Bool.not_true, Bool.not_false]
    rw [wrapS (by omega)]
    exact fin
  | succ d ih =>
    intro k hd hk
    have hk1 : k < ps[i].x.length := by omega
    have hk2 : k < qs[i].x.length := by rw [← ex]; exact hk1
    refine r_brickyardref13_Alike_9 ?_
    refine ln_at O X rfl rfl hi fun v1 => ?_
    rw [show decide ((k : Int) < (ps[i].x.length : Int)) = true from decide_eq_true (by omega)]
    simp only [oB_some, bC_true, bC_false, vInt_int, vBool_bool, vStr_string, vPtr_pointer, vSl_slice, vMap_map, vFun_func, vAgg_agg, vTup_tuple, vIfc_nil, vIfc_iface, lC_cons, lN_nil, aP_some, shO_none, shO_some, Option.isNone_none, Option.isNone_some, Bool.not_true, Bool.not_false]
    refine ln_at O X rfl rfl hi fun v1 => ?_
    refine wd_at O v1 rfl rfl hk1 ?_
    refine ln_at O Y rfl rfl hi2 fun v2 => ?_
    refine wd_at O v2 rfl rfl hk2 ?_
    have es : ps[i].x[k] = qs[i].x[k] := by simp only [ex]
    rw [es, show bEq qs[i].x[k] qs[i].x[k] = true from bEq_iff.2 rfl]
    simp only [oB_some, bC_true, bC_false, vInt_int, vBool_bool, vStr_string, vPtr_pointer, vSl_slice, vMap_map, vFun_func, vAgg_agg, vTup_tuple, vIfc_nil, vIfc_iface, lC_cons, lN_nil, aP_some, shO_none, shO_some, Option.isNone_none, Option.isNone_some, Bool.not_true, Bool.not_false]
    rw [wrapS (by omega)]
    exact ih (k + 1) (by omega) (by omega)
theorem alike_4 (O : Own h μ ρ) {ps qs : List Wds} {a b : Option Addr} {ca cb : Nat} (X : Lns ρ ps a) (Y : Lns ρ qs b) (e : ps.map Wds.x = qs.map Wds.x) (hl : ps.length ≤ 1000000) (hw : ∀ p, p ∈ ps → p.x.length ≤ 20000000) (hq : Q (.bool true) h) :
    ∀ (d i : Nat), ps.length - i = d → i ≤ ps.length → unitAt P f_brickyardref13_Alike 4 [0, 1, 5] [.slice a ps.length ca, .slice b qs.length cb, .int .i64 (i : Int)] h Q := by
  have hlen : ps.length = qs.length := by have := congrArg List.length e; simpa using this
  intro d
  induction d with
  | zero =>
    intro i hd hi
    refine r_brickyardref13_Alike_4 ?_
    rw [geI (by omega)]
    simp only [oB_some, bC_true, bC_false, vInt_int, vBool_bool, vStr_string, vPtr_pointer, vSl_slice, vMap_map, vFun_func, vAgg_agg, vTup_tuple, vIfc_nil, vIfc_iface, lC_cons, lN_nil, aP_some, shO_none, shO_some, Option.isNone_none, Option.isNone_some, Bool.not_true, Bool.not_false]
    exact hq
  | succ d ih =>
    intro i hd hi
    have h1 : i < ps.length := by omega
    have h2 : i < qs.length := by omega
    refine r_brickyardref13_Alike_4 ?_
    rw [ltI h1]
    simp only [oB_some, bC_true, bC_false, vInt_int, vBool_bool, vStr_string, vPtr_pointer, vSl_slice, vMap_map, vFun_func, vAgg_agg, vTup_tuple, vIfc_nil, vIfc_iface, lC_cons, lN_nil, aP_some, shO_none, shO_some, Option.isNone_none, Option.isNone_some, Bool.not_true, Bool.not_false]
    refine ln_at O X rfl rfl h1 fun _ => ?_
    refine ln_at O Y rfl rfl h2 fun _ => ?_
    rw [show (((ps[i].x.length : Nat) : Int) != ((qs[i].x.length : Nat) : Int)) = false from by rw [x_at e h1 h2]; simp]
    simp only [oB_some, bC_true, bC_false, vInt_int, vBool_bool, vStr_string, vPtr_pointer, vSl_slice, vMap_map, vFun_func, vAgg_agg, vTup_tuple, vIfc_nil, vIfc_iface, lC_cons, lN_nil, aP_some, shO_none, shO_some, Option.isNone_none, Option.isNone_some, Bool.not_true, Bool.not_false]
    exact alike_9 O X Y e hl h1 (hw _ (List.getElem_mem h1)) (ih (i + 1) (by omega) (by omega)) _ 0 rfl (Nat.zero_le _)
theorem alike_ok (O : Own h μ ρ) {ps qs : List Wds} {a b : Option Addr} {ca cb : Nat} (X : Lns ρ ps a) (Y : Lns ρ qs b) (e : ps.map Wds.x = qs.map Wds.x) (hl : ps.length ≤ 1000000) (hw : ∀ p, p ∈ ps → p.x.length ≤ 20000000) (hq : Q (.bool true) h) :
    EvQ P f_brickyardref13_Alike [.slice a ps.length ca, .slice b qs.length cb] h Q := by
  have hlen : ps.length = qs.length := by have := congrArg List.length e; simpa using this
  refine r_brickyardref13_Alike ?_
  rw [show (((ps.length : Nat) : Int) != ((qs.length : Nat) : Int)) = false from by rw [hlen]; simp]
  simp only [oB_some, bC_true, bC_false, vInt_int, vBool_bool, vStr_string, vPtr_pointer, vSl_slice, vMap_map, vFun_func, vAgg_agg, vTup_tuple, vIfc_nil, vIfc_iface, lC_cons, lN_nil, aP_some, shO_none, shO_some, Option.isNone_none, Option.isNone_some, Bool.not_true, Bool.not_false]
  exact alike_4 O X Y e hl hw hq _ 0 rfl (Nat.zero_le _)
/-! As text. -/
/-- Lines that are not too great for a text. -/
structure Txt (ps : List Wds) : Prop where
  len : ps.length ≤ 1000000
  wds : ∀ p, p ∈ ps → p.x.length ≤ 20000000
  str : ∀ p, p ∈ ps → ∀ s, s ∈ p.x → s.size ≤ 20000000
  all : (prL (ps.map Wds.x)).length ≤ 100000000
theorem jn_drop {x : List Str} {k : Nat} (hk : k < x.length) : jn (decide (k = 0)) (x.drop k) = (if k = 0 then [] else [32]) ++ (showL (x[k]).data.toList ++ jn false (x.drop (k + 1))) := by
  rw [List.drop_eq_getElem_cons hk, jn]
  by_cases h : k = 0 <;> simp [h]
/-- The words of a line are written, as said. -/
theorem rprint_7 {ps : List Wds} {a : Option Addr} {cap n1 : Nat} {z : Int} (X : Lns ρ ps a) (B : Txt ps) (hn1 : ρ n1 = none) {i : Nat} (hi : i < ps.length) {fin : List UInt8} (hfin : fin.length ≤ 100000000)
    (next : ∀ {h : AW} {μ : Paint} {ρ' : Store} {acc : List UInt8} {oa : Option Addr} {oc : Nat}, Own h μ ρ' → Pcs ρ ρ' [n1] [.sl oa oc 1 (ofBytes acc)] → acc ++ prL ((ps.drop (i + 1)).map Wds.x) = fin →
      unitAt P f_brickyardref13_Print 4 [4, 5, 6, 7] [.slice a ps.length cap, .int .i64 z, .slice oa acc.length oc, .int .i64 ((i + 1 : Nat) : Int)] h Q) :
    ∀ (d k : Nat) {h : AW} {μ : Paint} {ρ' : Store} {acc : List UInt8} {oa : Option Addr} {oc : Nat}, ps[i].x.length - k = d → k ≤ ps[i].x.length → Own h μ ρ' → Pcs ρ ρ' [n1] [.sl oa oc 1 (ofBytes acc)] → acc ++ (jn (decide (k = 0)) (ps[i].x.drop k) ++ [10] ++ prL ((ps.drop (i + 1)).map Wds.x)) = fin →
      unitAt P f_brickyardref13_Print 7 [4, 5, 6, 7, 8] [.slice a ps.length cap, .int .i64 z, .slice oa acc.length oc, .int .i64 (i : Int), .int .i64 (k : Int)] h Q := by
  have hil := B.len
  have hwl := B.wds _ (List.getElem_mem hi)
  intro d
  induction d with
  | zero =>
    intro k h μ ρ' acc oa oc hd hk O W ha
    have F : Fra [] ρ ρ' := W.fra0 fun c hc => by simp at hc; rw [hc]; exact hn1
    have hacc : acc.length ≤ 100000000 := by
      have := congrArg List.length ha
      simp only [List.length_append] at this
      omega
    rw [List.drop_eq_nil_of_le (by omega), jn, List.nil_append, ← List.append_assoc] at ha
    refine r_brickyardref13_Print_7 ?_
    refine ln_at O (X.keep F) rfl rfl hi fun _ => ?_
    rw [show decide ((k : Int) < (ps[i].x.length : Int)) = false from decide_eq_false (by omega)]
    simp only [oB_some, bC_true, bC_false, vInt_int, vBool_bool, vStr_string, vPtr_pointer, vSl_slice, vMap_map, vFun_func, vAgg_agg, vTup_tuple, vIfc_nil, vIfc_iface, lC_cons, lN_nil, aP_some, shO_none, shO_some, Option.isNone_none, Option.isNone_some, Bool.not_true, Bool.not_false]
    refine byt_app O W 0 (e := [10]) rfl rfl (by simp; omega) fun h5 μ5 ρ5 a5 cap5 O5 W5 => ?_
    simp only [oB_some, bC_true, bC_false, vInt_int, vBool_bool, vStr_string, vPtr_pointer, vSl_slice, vMap_map, vFun_func, vAgg_agg, vTup_tuple, vIfc_nil, vIfc_iface, lC_cons, lN_nil, aP_some, shO_none, shO_some, Option.isNone_none, Option.isNone_some, Bool.not_true, Bool.not_false]
    rw [wrapS (by omega), ← List.length_append]
    exact next O5 W5 ha
  | succ d ih =>
    intro k h μ ρ' acc oa oc hd hk O W ha
    have hk1 : k < ps[i].x.length := by omega
    have F : Fra [] ρ ρ' := W.fra0 fun c hc => by simp at hc; rw [hc]; exact hn1
    have hacc : acc.length ≤ 100000000 := by
      have := congrArg List.length ha
      simp only [List.length_append] at this
      omega
    have hsz := B.str _ (List.getElem_mem hi) _ (List.getElem_mem hk1)
    have hsh := show_len (ps[i].x[k]).data.toList
    have hs0 : (ps[i].x[k]).data.toList.length = (ps[i].x[k]).size := rfl
    have e0 : decide (k + 1 = 0) = false := by simp
    have u11 : ∀ {h : AW} {μ : Paint} {ρ' : Store} {acc : List UInt8} {oa : Option Addr} {oc : Nat}, Own h μ ρ' → Pcs ρ ρ' [n1] [.sl oa oc 1 (ofBytes acc)] → acc ++ (showL (ps[i].x[k]).data.toList ++ jn false (ps[i].x.drop (k + 1)) ++ [10] ++ prL ((ps.drop (i + 1)).map Wds.x)) = fin →
        unitAt P f_brickyardref13_Print 11 [4, 5, 6, 7, 8] [.slice a ps.length cap, .int .i64 z, .slice oa acc.length oc, .int .i64 (i : Int), .int .i64 (k : Int)] h Q := fun {h μ ρ' acc oa oc} O W ha => by
      have F : Fra [] ρ ρ' := W.fra0 fun c hc => by simp at hc; rw [hc]; exact hn1
      have hacc : acc.length ≤ 100000000 := by
        have := congrArg List.length ha
        simp only [List.length_append] at this
        omega
      refine r_brickyardref13_Print_11 ?_
      refine ln_at O (X.keep F) rfl rfl hi fun v => ?_
      refine wd_at O v rfl rfl hk1 ?_
      refine rshow_ok O (by omega) fun h2 μ2 ρ2 O2 F2 => ?_
      have W2 := W.keep0 F2
      simp only [oB_some, bC_true, bC_false, vInt_int, vBool_bool, vStr_string, vPtr_pointer, vSl_slice, vMap_map, vFun_func, vAgg_agg, vTup_tuple, vIfc_nil, vIfc_iface, lC_cons, lN_nil, aP_some, shO_none, shO_some, Option.isNone_none, Option.isNone_some, Bool.not_true, Bool.not_false]
      have hsize : (⟨⟨showL (ps[i].x[k]).data.toList⟩⟩ : ByteArray).size = (showL (ps[i].x[k]).data.toList).length := rfl
      rw [appB_str ti_ty_sl_uint8 ti_ty_uint8 ti_ty_string rfl]
      obtain ⟨c, hcn, hc⟩ := W2.get 0 rfl
      have M : OM h2 μ2 c oa oc 1 (ofBytes acc) := O2.holds _ _ hc
      have hcap : acc.length ≤ oc := by have := M.le; rw [ofB_len] at this; omega
      obtain ⟨a', cap', h', e', M', _, C⟩ := appendV_ok (P := P) ti_ty_uint8 rfl M (l := acc.length) (n := (⟨⟨showL (ps[i].x[k]).data.toList⟩⟩ : ByteArray).size) (new := ofBytes (showL (ps[i].x[k]).data.toList)) (by rw [ofB_len]; simp) (by rw [ofB_len, hsize]; simp) (one_bytes _) (by rw [hsize]; simp only; omega) (by rw [hsize]; omega) hcap
      refine oP_bind e' ?_
      rw [ofB_app] at M'
      have O3 := O2.step (r := .sl a' cap' 1 (ofBytes (acc ++ showL (ps[i].x[k]).data.toList))) C M'
      have W3 := W2.set 0 hcn (.sl a' cap' 1 (ofBytes (acc ++ showL (ps[i].x[k]).data.toList)))
      simp only [oB_some, bC_true, bC_false, vInt_int, vBool_bool, vStr_string, vPtr_pointer, vSl_slice, vMap_map, vFun_func, vAgg_agg, vTup_tuple, vIfc_nil, vIfc_iface, lC_cons, lN_nil, aP_some, shO_none, shO_some, Option.isNone_none, Option.isNone_some, Bool.not_true, Bool.not_false]
      rw [wrapS (by omega), hsize, ← List.length_append]
      refine ih (k + 1) (by omega) (by omega) O3 W3 ?_
      rw [e0, List.append_assoc, ← ha]
      simp only [List.append_assoc]
    rw [jn_drop hk1] at ha
    refine r_brickyardref13_Print_7 ?_
    refine ln_at O (X.keep F) rfl rfl hi fun _ => ?_
    rw [show decide ((k : Int) < (ps[i].x.length : Int)) = true from decide_eq_true (by omega)]
    simp only [oB_some, bC_true, bC_false, vInt_int, vBool_bool, vStr_string, vPtr_pointer, vSl_slice, vMap_map, vFun_func, vAgg_agg, vTup_tuple, vIfc_nil, vIfc_iface, lC_cons, lN_nil, aP_some, shO_none, shO_some, Option.isNone_none, Option.isNone_some, Bool.not_true, Bool.not_false]
    refine bC_iff (fun e => ?_) (fun e => ?_)
    · have e : k ≠ 0 := by have := of_decide_eq_true e; omega
      rw [if_neg e] at ha
      refine byt_app O W 0 (e := [32]) rfl rfl (by simp; omega) fun h5 μ5 ρ5 a5 cap5 O5 W5 => ?_
      simp only [oB_some, bC_true, bC_false, vInt_int, vBool_bool, vStr_string, vPtr_pointer, vSl_slice, vMap_map, vFun_func, vAgg_agg, vTup_tuple, vIfc_nil, vIfc_iface, lC_cons, lN_nil, aP_some, shO_none, shO_some, Option.isNone_none, Option.isNone_some, Bool.not_true, Bool.not_false]
      rw [← List.length_append]
      exact u11 O5 W5 (by rw [← ha]; simp only [List.append_assoc])
    · have e : k = 0 := by have := of_decide_eq_false e; omega
      rw [if_pos e, List.nil_append] at ha
      exact u11 O W ha
theorem rprint_4 {ps : List Wds} {a : Option Addr} {cap n1 : Nat} {z : Int} (X : Lns ρ ps a) (B : Txt ps) (hn1 : ρ n1 = none) (hq : RdQ Q ρ (.tuple ⟨[.string ⟨⟨prL (ps.map Wds.x)⟩⟩, .int .i64 z]⟩)) :
    ∀ (d i : Nat) {h : AW} {μ : Paint} {ρ' : Store} {acc : List UInt8} {oa : Option Addr} {oc : Nat}, ps.length - i = d → i ≤ ps.length → Own h μ ρ' → Pcs ρ ρ' [n1] [.sl oa oc 1 (ofBytes acc)] → acc ++ prL ((ps.drop i).map Wds.x) = prL (ps.map Wds.x) →
      unitAt P f_brickyardref13_Print 4 [4, 5, 6, 7] [.slice a ps.length cap, .int .i64 z, .slice oa acc.length oc, .int .i64 (i : Int)] h Q := by
  have hil := B.len
  have hall := B.all
  intro d
  induction d with
  | zero =>
    intro i h μ ρ' acc oa oc hd hi O W ha
    have F : Fra [] ρ ρ' := W.fra0 fun c hc => by simp at hc; rw [hc]; exact hn1
    rw [List.drop_eq_nil_of_le (by omega)] at ha
    have ha : acc = prL (ps.map Wds.x) := by simpa [prL] using ha
    refine r_brickyardref13_Print_4 ?_
    rw [geI (by omega)]
    simp only [oB_some, bC_true, bC_false, vInt_int, vBool_bool, vStr_string, vPtr_pointer, vSl_slice, vMap_map, vFun_func, vAgg_agg, vTup_tuple, vIfc_nil, vIfc_iface, lC_cons, lN_nil, aP_some, shO_none, shO_some, Option.isNone_none, Option.isNone_some, Bool.not_true, Bool.not_false]
    refine oB_bind (w_bytes O W 0 rfl) ?_
    rw [ha]
    exact hq _ _ _ O F
  | succ d ih =>
    intro i h μ ρ' acc oa oc hd hi O W ha
    have h1 : i < ps.length := by omega
    rw [List.drop_eq_getElem_cons h1, List.map_cons, prL, List.flatMap_cons] at ha
    refine r_brickyardref13_Print_4 ?_
    rw [ltI h1]
    simp only [oB_some, bC_true, bC_false, vInt_int, vBool_bool, vStr_string, vPtr_pointer, vSl_slice, vMap_map, vFun_func, vAgg_agg, vTup_tuple, vIfc_nil, vIfc_iface, lC_cons, lN_nil, aP_some, shO_none, shO_some, Option.isNone_none, Option.isNone_some, Bool.not_true, Bool.not_false]
    exact rprint_7 X B hn1 h1 (fin := prL (ps.map Wds.x)) (by omega) (fun O' W' ha' => ih (i + 1) (by omega) (by omega) O' W' ha') _ 0 rfl (Nat.zero_le _) O W (by rw [decide_eq_true rfl, List.drop_zero]; exact ha)
end Go.Proofs.YtgdkekdedgkglaaDoor
end

section
/- An action's text, as made. -/
namespace Go.Proofs.YtgdkekdedgkglaaDoor
open Go.Abs Go.Abs.Fo
set_option maxRecDepth 100000
attribute [local irreducible] unitAt EvQ
variable {h : AW} {μ : Paint} {ρ ρ' : Store} {Q : Value → AW → Prop}
theorem fra4 {n1 n2 n3 n4 : Nat} {rs : List Res} (h1 : ρ n1 = none) (h2 : ρ n2 = none) (h3 : ρ n3 = none) (h4 : ρ n4 = none) (W : Pcs ρ ρ' [n1, n2, n3, n4] rs) : Fra [] ρ ρ' := W.fra0 fun c hc => by
  simp only [List.mem_cons, List.not_mem_nil, or_false] at hc
  rcases hc with rfl | rfl | rfl | rfl <;> assumption
/-- The words of a line are written. -/
theorem aprint_9 {ps : List Wds} {a : Option Addr} {cap p n1 n2 n3 n4 : Nat} (X : Lns ρ ps a) (B : Txt ps) (h1 : ρ n1 = none) (h2 : ρ n2 = none) (h3 : ρ n3 = none) (h4 : ρ n4 = none) {i : Nat} (hi : i < ps.length) {fin : List UInt8} (hfin : fin.length ≤ 100000000)
    (next : ∀ {h : AW} {μ : Paint} {ρ' : Store} {acc : List UInt8} {b : Option Nat} {bc : Nat} {u : Option Addr}, Own h μ ρ' → Pcs ρ ρ' [n1, n2, n3, n4] (bldR p u b bc acc []) → (u = none ∨ u = some ⟨p, 0, none⟩) → acc ≠ [] → acc ++ prL ((ps.drop (i + 1)).map Wds.x) = fin →
      unitAt P f_action_Print 6 [6, 19, 20, 21] [.pointer (some ⟨p, 0, none⟩), .slice a ps.length cap, .int .i64 (ps.length : Int), .int .i64 ((i + 1 : Nat) : Int)] h Q) :
    ∀ (d k : Nat) {h : AW} {μ : Paint} {ρ' : Store} {acc : List UInt8} {b : Option Nat} {bc : Nat} {u : Option Addr}, ps[i].x.length - k = d → k ≤ ps[i].x.length → Own h μ ρ' → Pcs ρ ρ' [n1, n2, n3, n4] (bldR p u b bc acc []) → (u = none ∨ u = some ⟨p, 0, none⟩) → acc ++ (jn (decide (k = 0)) (ps[i].x.drop k) ++ [10] ++ prL ((ps.drop (i + 1)).map Wds.x)) = fin →
      unitAt P f_action_Print 9 [6, 19, 20, 21, 25, 26, 27] [.pointer (some ⟨p, 0, none⟩), .slice a ps.length cap, .int .i64 (ps.length : Int), .int .i64 (i : Int), .slice ps[i].a ps[i].x.length ps[i].cap, .int .i64 (ps[i].x.length : Int), .int .i64 (k : Int)] h Q := by
  have hil := B.len
  have hwl := B.wds _ (List.getElem_mem hi)
  have V := X.each _ (List.getElem_mem hi)
  intro d
  induction d with
  | zero =>
    intro k h μ ρ' acc b bc u hd hk O W hu ha
    have hacc : acc.length ≤ 100000000 := by
      have := congrArg List.length ha
      simp only [List.length_append] at this
      omega
    rw [List.drop_eq_nil_of_le (by omega), jn, List.nil_append, ← List.append_assoc] at ha
    refine r_action_Print_9 ?_
    rw [show decide ((k : Int) < (ps[i].x.length : Int)) = false from decide_eq_false (by omega)]
    simp only [oB_some, bC_true, bC_false, vInt_int, vBool_bool, vStr_string, vPtr_pointer, vSl_slice, vMap_map, vFun_func, vAgg_agg, vTup_tuple, vIfc_nil, vIfc_iface, lC_cons, lN_nil, aP_some, shO_none, shO_some, Option.isNone_none, Option.isNone_some, Bool.not_true, Bool.not_false]
    refine wb_ok O W hu 10 rfl (by omega) fun h5 μ5 ρ5 b5 cap5 O5 W5 => ?_
    simp only [oB_some, bC_true, bC_false, vInt_int, vBool_bool, vStr_string, vPtr_pointer, vSl_slice, vMap_map, vFun_func, vAgg_agg, vTup_tuple, vIfc_nil, vIfc_iface, lC_cons, lN_nil, aP_some, shO_none, shO_some, Option.isNone_none, Option.isNone_some, Bool.not_true, Bool.not_false]
    rw [wrapS (by omega)]
    exact next O5 W5 (.inr rfl) (by simp) ha
  | succ d ih =>
    intro k h μ ρ' acc b bc u hd hk O W hu ha
    have hk1 : k < ps[i].x.length := by omega
    have F := fra4 h1 h2 h3 h4 W
    have hacc : acc.length ≤ 100000000 := by
      have := congrArg List.length ha
      simp only [List.length_append] at this
      omega
    have hsz := B.str _ (List.getElem_mem hi) _ (List.getElem_mem hk1)
    have hsh := show_len (ps[i].x[k]).data.toList
    have hs0 : (ps[i].x[k]).data.toList.length = (ps[i].x[k]).size := rfl
    have e0 : decide (k + 1 = 0) = false := by simp
    have u13 : ∀ {h : AW} {μ : Paint} {ρ' : Store} {acc : List UInt8} {b : Option Nat} {bc : Nat} {u : Option Addr}, Own h μ ρ' → Pcs ρ ρ' [n1, n2, n3, n4] (bldR p u b bc acc []) → (u = none ∨ u = some ⟨p, 0, none⟩) → acc ++ (showL (ps[i].x[k]).data.toList ++ jn false (ps[i].x.drop (k + 1)) ++ [10] ++ prL ((ps.drop (i + 1)).map Wds.x)) = fin →
        unitAt P f_action_Print 13 [6, 10, 19, 20, 21, 25, 26, 27] [.pointer (some ⟨p, 0, none⟩), .string ps[i].x[k], .slice a ps.length cap, .int .i64 (ps.length : Int), .int .i64 (i : Int), .slice ps[i].a ps[i].x.length ps[i].cap, .int .i64 (ps[i].x.length : Int), .int .i64 (k : Int)] h Q := fun {h μ ρ' acc b bc u} O W hu ha => by
      have hacc : acc.length ≤ 100000000 := by
        have := congrArg List.length ha
        simp only [List.length_append] at this
        omega
      refine r_action_Print_13 ?_
      refine show_ok O (by omega) fun h2 μ2 ρ2 O2 F2 => ?_
      have W2 := W.keep0 F2
      simp only [oB_some, bC_true, bC_false, vInt_int, vBool_bool, vStr_string, vPtr_pointer, vSl_slice, vMap_map, vFun_func, vAgg_agg, vTup_tuple, vIfc_nil, vIfc_iface, lC_cons, lN_nil, aP_some, shO_none, shO_some, Option.isNone_none, Option.isNone_some, Bool.not_true, Bool.not_false]
      have hsize : (⟨⟨showL (ps[i].x[k]).data.toList⟩⟩ : ByteArray).size = (showL (ps[i].x[k]).data.toList).length := rfl
      refine ws_ok O2 W2 hu ⟨⟨showL (ps[i].x[k]).data.toList⟩⟩ (by omega) (by rw [hsize]; omega) fun h5 μ5 ρ5 b5 cap5 O5 W5 => ?_
      simp only [oB_some, bC_true, bC_false, vInt_int, vBool_bool, vStr_string, vPtr_pointer, vSl_slice, vMap_map, vFun_func, vAgg_agg, vTup_tuple, vIfc_nil, vIfc_iface, lC_cons, lN_nil, aP_some, shO_none, shO_some, Option.isNone_none, Option.isNone_some, Bool.not_true, Bool.not_false]
      rw [wrapS (by omega)]
      refine ih (k + 1) (by omega) (by omega) O5 W5 (.inr rfl) ?_
      rw [e0, ← ha]
      simp only [List.append_assoc]
    rw [jn_drop hk1] at ha
    refine r_action_Print_9 ?_
    rw [show decide ((k : Int) < (ps[i].x.length : Int)) = true from decide_eq_true (by omega)]
    simp only [oB_some, bC_true, bC_false, vInt_int, vBool_bool, vStr_string, vPtr_pointer, vSl_slice, vMap_map, vFun_func, vAgg_agg, vTup_tuple, vIfc_nil, vIfc_iface, lC_cons, lN_nil, aP_some, shO_none, shO_some, Option.isNone_none, Option.isNone_some, Bool.not_true, Bool.not_false]
    refine wd_at O (V.keep F) rfl rfl hk1 ?_
    refine bC_iff (fun e => ?_) (fun e => ?_)
    · have e : k ≠ 0 := by have := of_decide_eq_true e; omega
      rw [if_neg e] at ha
      refine wb_ok O W hu 32 rfl (by omega) fun h5 μ5 ρ5 b5 cap5 O5 W5 => ?_
      simp only [oB_some, bC_true, bC_false, vInt_int, vBool_bool, vStr_string, vPtr_pointer, vSl_slice, vMap_map, vFun_func, vAgg_agg, vTup_tuple, vIfc_nil, vIfc_iface, lC_cons, lN_nil, aP_some, shO_none, shO_some, Option.isNone_none, Option.isNone_some, Bool.not_true, Bool.not_false]
      exact u13 O5 W5 (.inr rfl) (by rw [← ha]; simp only [List.append_assoc])
    · have e : k = 0 := by have := of_decide_eq_false e; omega
      rw [if_pos e, List.nil_append] at ha
      exact u13 O W hu ha
theorem aprint_6 {ps : List Wds} {a : Option Addr} {cap p n1 n2 n3 n4 : Nat} (X : Lns ρ ps a) (B : Txt ps) (h1 : ρ n1 = none) (h2 : ρ n2 = none) (h3 : ρ n3 = none) (h4 : ρ n4 = none) (hq : RdQ Q ρ (.tuple ⟨[.string ⟨⟨prL (ps.map Wds.x)⟩⟩, .int .i64 0]⟩)) :
    ∀ (d i : Nat) {h : AW} {μ : Paint} {ρ' : Store} {acc : List UInt8} {b : Option Nat} {bc : Nat} {u : Option Addr}, ps.length - i = d → i ≤ ps.length → Own h μ ρ' → Pcs ρ ρ' [n1, n2, n3, n4] (bldR p u b bc acc []) → (u = none ∨ u = some ⟨p, 0, none⟩) → (acc = [] → b = none) → acc ++ prL ((ps.drop i).map Wds.x) = prL (ps.map Wds.x) →
      unitAt P f_action_Print 6 [6, 19, 20, 21] [.pointer (some ⟨p, 0, none⟩), .slice a ps.length cap, .int .i64 (ps.length : Int), .int .i64 (i : Int)] h Q := by
  have hil := B.len
  have hall := B.all
  intro d
  induction d with
  | zero =>
    intro i h μ ρ' acc b bc u hd hi O W hu hb ha
    rw [List.drop_eq_nil_of_le (by omega)] at ha
    have ha : acc = prL (ps.map Wds.x) := by simpa [prL] using ha
    refine r_action_Print_6 ?_
    rw [geI (by omega)]
    simp only [oB_some, bC_true, bC_false, vInt_int, vBool_bool, vStr_string, vPtr_pointer, vSl_slice, vMap_map, vFun_func, vAgg_agg, vTup_tuple, vIfc_nil, vIfc_iface, lC_cons, lN_nil, aP_some, shO_none, shO_some, Option.isNone_none, Option.isNone_some, Bool.not_true, Bool.not_false]
    refine bs_ok O W h1 h2 (by rw [ha]; omega) hb fun h5 ρ5 O5 W5 => ?_
    simp only [oB_some, bC_true, bC_false, vInt_int, vBool_bool, vStr_string, vPtr_pointer, vSl_slice, vMap_map, vFun_func, vAgg_agg, vTup_tuple, vIfc_nil, vIfc_iface, lC_cons, lN_nil, aP_some, shO_none, shO_some, Option.isNone_none, Option.isNone_some, Bool.not_true, Bool.not_false]
    rw [ha]
    exact hq _ _ _ O5 (W5.fra0 fun c hc => by simp at hc; rcases hc with rfl | rfl <;> assumption)
  | succ d ih =>
    intro i h μ ρ' acc b bc u hd hi O W hu hb ha
    have hl : i < ps.length := by omega
    have F := fra4 h1 h2 h3 h4 W
    rw [List.drop_eq_getElem_cons hl, List.map_cons, prL, List.flatMap_cons] at ha
    refine r_action_Print_6 ?_
    rw [ltI hl]
    simp only [oB_some, bC_true, bC_false, vInt_int, vBool_bool, vStr_string, vPtr_pointer, vSl_slice, vMap_map, vFun_func, vAgg_agg, vTup_tuple, vIfc_nil, vIfc_iface, lC_cons, lN_nil, aP_some, shO_none, shO_some, Option.isNone_none, Option.isNone_some, Bool.not_true, Bool.not_false]
    refine ln_at O (X.keep F) rfl rfl hl fun _ => ?_
    exact aprint_9 X B h1 h2 h3 h4 hl (fin := prL (ps.map Wds.x)) (by omega) (fun O' W' hu' h0 ha' => ih (i + 1) (by omega) (by omega) O' W' hu' (fun e => absurd e h0) ha') _ 0 rfl (Nat.zero_le _) O W hu (by rw [decide_eq_true rfl, List.drop_zero]; exact ha)
theorem word_len (op : Int) : (wordM op).size ≤ 6 := by
  unfold wordM
  cases op with
  | negSucc _ => exact Nat.zero_le _
  | ofNat n =>
    show ((kinds[n]?).getD e0).size ≤ 6
    by_cases hn : n < 13
    · have : ∀ k : Fin 13, ((kinds[k.1]?).getD e0).size ≤ 6 := by decide
      exact this ⟨n, hn⟩
    · rw [List.getElem?_eq_none (show kinds.length ≤ n by simp [kinds]; omega)]
      exact Nat.zero_le _
/-- The lines of what is no great thing are no great text. -/
theorem lines_sum : ∀ f : F, (f.lines.map fun l => 1 + (l.map fun s => 1 + s.size).sum).sum ≤ 40 * full f
  | .nil => by simp [F.lines]
  | .cons op args kk b r => by
    have hb := lines_sum b
    have hr := lines_sum r
    have hw := word_len op
    have hd : (digS kk.toNat).size ≤ 21 := digits_len 20 kk.toNat
    have he : wEnd.size = 3 := by decide
    simp only [F.lines, full, List.map_cons, List.map_append, List.sum_cons, List.sum_append, lineM]
    split <;> split <;> simp only [List.map_cons, List.map_nil, List.map_append, List.sum_cons, List.sum_nil, List.sum_append, Nat.add_zero, he] <;> omega
/-- What is laid down is no great text. -/
theorem txt_of {f : F} {ps : List Wds} (e : ps.map Wds.x = f.lines) (hf : full f ≤ 262143) : Txt ps := by
  have h := lines_sum f
  rw [← e] at h
  have h' : ((ps.map Wds.x).map fun l : List Str => 1 + (l.map fun s => 1 + s.size).sum).sum ≤ 10485720 := by
    have : 40 * full f ≤ 10485720 := by omega
    exact Nat.le_trans h this
  have hs : ∀ p, p ∈ ps → 1 + (p.x.map fun s => 1 + s.size).sum ≤ 10485720 := fun p hp => by
    have := sum_mem (List.mem_map_of_mem (f := fun l : List Str => 1 + (l.map fun s => 1 + s.size).sum) (List.mem_map_of_mem (f := Wds.x) hp))
    exact Nat.le_trans this h'
  refine ⟨?_, fun p hp => ?_, fun p hp s hx => ?_, ?_⟩
  · have h1 := F.lines_len f
    have h2 := F.size_full f
    have := congrArg List.length e
    rw [List.length_map] at this
    omega
  · have h1 := hs p hp
    have h2 := sum_len (l := p.x.map fun s => 1 + s.size) (by intro a ha; obtain ⟨l, _, rfl⟩ := List.mem_map.1 ha; omega)
    rw [List.length_map] at h2
    omega
  · have h1 := hs p hp
    have h2 := sum_mem (List.mem_map_of_mem (f := fun s : Str => 1 + s.size) hx)
    omega
  · exact Nat.le_trans (prL_len _) (Nat.le_trans (Nat.mul_le_mul_left 3 h') (by decide))
end Go.Proofs.YtgdkekdedgkglaaDoor
end

section
namespace Go.Proofs.YtgdkekdedgkglaaDoor
open Go.Abs
set_option maxRecDepth 100000
set_option maxHeartbeats 400000
def worksP (h : AW) (Q : Value → AW → Prop) : Prop := EvQ P f_action_Parse [Value.slice (some (Addr.mk (AW.next (AW.addVar (AW.addVar (AW.addVar (AW.addVar h [Value.string (ByteArray.mk
  #[101, 97, 99, 104]), Value.string (ByteArray.mk #[108, 105, 115, 116])]) [Value.string (ByteArray.mk #[99, 97, 116]), Value.string (ByteArray.mk #[64])]) [Value.string
  (ByteArray.mk #[101, 110, 100])]) [Value.string (ByteArray.mk #[119, 114, 105, 116, 101]), Value.string (ByteArray.mk #[120])])) 0 none)) 4 4] (AW.addVar (AW.addVar (AW.addVar
  (AW.addVar (AW.addVar h [Value.string (ByteArray.mk #[101, 97, 99, 104]), Value.string (ByteArray.mk #[108, 105, 115, 116])]) [Value.string (ByteArray.mk #[99, 97, 116]),
  Value.string (ByteArray.mk #[64])]) [Value.string (ByteArray.mk #[101, 110, 100])]) [Value.string (ByteArray.mk #[119, 114, 105, 116, 101]), Value.string (ByteArray.mk #[120])])
  [Value.slice (some (Addr.mk (AW.next h) 0 none)) 2 2, Value.slice (some (Addr.mk (AW.next (AW.addVar h [Value.string (ByteArray.mk #[101, 97, 99, 104]), Value.string
  (ByteArray.mk #[108, 105, 115, 116])])) 0 none)) 2 2, Value.slice (some (Addr.mk (AW.next (AW.addVar (AW.addVar h [Value.string (ByteArray.mk #[101, 97, 99, 104]), Value.string
  (ByteArray.mk #[108, 105, 115, 116])]) [Value.string (ByteArray.mk #[99, 97, 116]), Value.string (ByteArray.mk #[64])])) 0 none)) 1 1, Value.slice (some (Addr.mk (AW.next
  (AW.addVar (AW.addVar (AW.addVar h [Value.string (ByteArray.mk #[101, 97, 99, 104]), Value.string (ByteArray.mk #[108, 105, 115, 116])]) [Value.string (ByteArray.mk #[99, 97,
  116]), Value.string (ByteArray.mk #[64])]) [Value.string (ByteArray.mk #[101, 110, 100])])) 0 none)) 2 2]) fun v1 h2 => vTup v1 fun l3 => lC l3 fun v4 l5 => vSl v4 fun p6 m7 m8
  => lC l5 fun v9 l10 => vAgg v9 fun l11 => lC l11 fun v12 l13 => vInt IntKind.i64 v12 fun n14 => lC l13 fun v15 l16 => vInt IntKind.i64 v15 fun n17 => lN l16 (lN l10 (oB (AW.wrL
  (AW.addVar h2 [Value.int IntKind.i64 0, Value.int IntKind.i64 0]) (AW.next h2) 0 [Value.int IntKind.i64 n14, Value.int IntKind.i64 n17]) fun h18 => oB (AW.rd h18 (AW.next h2) 0)
  fun v19 => vInt IntKind.i64 v19 fun n20 => oB (AW.rd h18 (AW.next h2) 1) fun v21 => vInt IntKind.i64 v21 fun n22 => bC (n20 == 0 && (n22 == 0 && true)) (bC ((↑m7 : Int) == 2) (aP
  p6 fun m23 m24 => oB (natIdx 0 m7) fun m25 => oB (AW.rd h18 m23 (m24 + m25 * 4)) fun v26 => vInt IntKind.i64 v26 fun n27 => bC (n27 == 11) (aP p6 fun m28 m29 => oB (natIdx 0 m7)
  fun m30 => oB (AW.rd h18 m28 (m29 + m30 * 4 + 3)) fun v31 => vSl v31 fun p32 m33 m34 => bC ((↑m33 : Int) == 1) (aP p6 fun m35 m36 => oB (natIdx 1 m7) fun m37 => oB (AW.rd h18 m35
  (m36 + m37 * 4 + 1)) fun v38 => vSl v38 fun p39 m40 m41 => bC ((↑m40 : Int) == 1) (aP p6 fun m42 m43 => oB (natIdx 1 m7) fun m44 => oB (AW.rd h18 m42 (m43 + m44 * 4 + 1)) fun v45
  => vSl v45 fun p46 m47 m48 => aP p46 fun m49 m50 => oB (natIdx 0 m47) fun m51 => oB (AW.rd h18 m49 (m50 + m51 * 1)) fun v52 => vStr v52 fun s53 => Q (Value.bool (bEq s53
  (ByteArray.mk #[120]))) h18) (Q (Value.bool false) h18)) (Q (Value.bool false) h18)) (Q (Value.bool false) h18)) (Q (Value.bool false) h18)) (Q (Value.bool false) h18)))
theorem works_eq (h : AW) (Q : Value → AW → Prop) : worksP h Q = kFn P f_brickyardlaw13_works 400 (annOf []) [] h Q := by kernel_rfl
attribute [local irreducible] kFn EvQ worksP in
theorem r_brickyardlaw13_works {h : AW} {Q : Value → AW → Prop} (H : worksP h Q) : EvQ P f_brickyardlaw13_works [] h Q := by
  rw [works_eq] at H
  exact fn_ok H
end Go.Proofs.YtgdkekdedgkglaaDoor
end

section
/- One answer that the document fixes. -/
namespace Go.Proofs.YtgdkekdedgkglaaDoor
open Go.Abs Go.Abs.Fo
set_option maxRecDepth 100000
attribute [local irreducible] unitAt EvQ
variable {h : AW} {μ : Paint} {ρ : Store} {Q : Value → AW → Prop}
abbrev wList : Str := ⟨#[108, 105, 115, 116]⟩
abbrev wAt : Str := ⟨#[64]⟩
abbrev wX : Str := ⟨#[120]⟩
theorem works_says : parseM [[wEach, wList], [wCat, wAt], [wEnd], [wWrite, wX]] = (.cons 11 [wList] 0 (.cons 2 [wAt] 0 .nil .nil) (.cons 8 [wX] 0 .nil .nil), 0, 0) := by rfl
theorem works_ok (O : Own h μ ρ) (hq : RdQ Q ρ (.bool true)) : EvQ P f_brickyardlaw13_works [] h Q := by
  refine r_brickyardlaw13_works ?_
  unfold worksP
  obtain ⟨μ1, ρ1, c1, O1, W1, hc1⟩ := w_block O p00 (strs [wEach, wList]) (n := 2) (sz := 1) rfl rfl
  obtain ⟨μ2, ρ2, c2, O2, W2, hc2⟩ := w_block O1 W1 (strs [wCat, wAt]) (n := 2) (sz := 1) rfl rfl
  obtain ⟨μ3, ρ3, c3, O3, W3, hc3⟩ := w_block O2 W2 (strs [wEnd]) (n := 1) (sz := 1) rfl rfl
  obtain ⟨μ4, ρ4, c4, O4, W4, hc4⟩ := w_block O3 W3 (strs [wWrite, wX]) (n := 2) (sz := 1) rfl rfl
  obtain ⟨μ5, ρ5, c5, O5, W5, hc5⟩ := w_block O4 W4 ([⟨some ⟨h.next, 0, none⟩, 2, [wEach, wList]⟩, ⟨some ⟨h.next + 1, 0, none⟩, 2, [wCat, wAt]⟩, ⟨some ⟨h.next + 2, 0, none⟩, 1, [wEnd]⟩, ⟨some ⟨h.next + 3, 0, none⟩, 2, [wWrite, wX]⟩].map Wds.cell) (n := 4) (sz := 1) rfl rfl
  have fr : ∀ c, c ∈ [c5, c4, c3, c2, c1] → ρ c = none := fun c hc => by
    simp only [List.mem_cons, List.not_mem_nil, or_false] at hc
    rcases hc with rfl | rfl | rfl | rfl | rfl <;> assumption
  have F5 : Fra [] ρ ρ5 := W5.fra0 fr
  have X : Lns ρ5 [⟨some ⟨h.next, 0, none⟩, 2, [wEach, wList]⟩, ⟨some ⟨h.next + 1, 0, none⟩, 2, [wCat, wAt]⟩, ⟨some ⟨h.next + 2, 0, none⟩, 1, [wEnd]⟩, ⟨some ⟨h.next + 3, 0, none⟩, 2, [wWrite, wX]⟩] (some ⟨h.next + 4, 0, none⟩) := by
    refine ⟨.inr (Rd.of_sl O5 (by simp) (W5.at_ 0 _ _ rfl rfl)), fun p hp => ?_, fun p hp => ?_⟩
    · simp only [List.mem_cons, List.not_mem_nil, or_false] at hp
      rcases hp with rfl | rfl | rfl | rfl
      · exact .inr (Rd.of_sl O5 (by simp) (W5.at_ 4 _ _ rfl rfl))
      · exact .inr (Rd.of_sl O5 (by simp) (W5.at_ 3 _ _ rfl rfl))
      · exact .inr (Rd.of_sl O5 (by simp) (W5.at_ 2 _ _ rfl rfl))
      · exact .inr (Rd.of_sl O5 (by simp) (W5.at_ 1 _ _ rfl rfl))
    · simp only [List.mem_cons, List.not_mem_nil, or_false] at hp
      rcases hp with rfl | rfl | rfl | rfl <;> simp
  refine parse_ok O5 Tbs.none X (wide_not (by rfl)) (fun p hp w s e h10 => ?_) fun h6 μ6 ρ6 co cm oa oc cells vs O6 W6 hco hcm L6 => ?_
  · simp only [List.mem_cons, List.not_mem_nil, or_false] at hp
    rcases hp with rfl | rfl | rfl | rfl <;> simp only [List.cons.injEq, and_true, List.cons_ne_nil, and_false, reduceCtorEq] at e
    all_goals (obtain ⟨rfl, rfl⟩ := e; exact absurd h10 (by decide))
  · have hsay : parseM (List.map Wds.x [⟨some ⟨h.next, 0, none⟩, 2, [wEach, wList]⟩, ⟨some ⟨h.next + 1, 0, none⟩, 2, [wCat, wAt]⟩, ⟨some ⟨h.next + 2, 0, none⟩, 1, [wEnd]⟩, ⟨some ⟨h.next + 3, 0, none⟩, 2, [wWrite, wX]⟩]) = _ := works_says
    rw [hsay] at L6 ⊢
    have F6 : Fra [] ρ ρ6 := F5.trans (W6.fra0 fun c hc => by simp at hc; rcases hc with rfl | rfl <;> assumption)
    have h1 := W6.at_ 0 _ _ rfl rfl
    have h2 := W6.at_ 1 _ _ rfl rfl
    have L6' : Lies (Vw ρ6 []) _ cells := L6.mono fun _ _ x => x.read O6 h2
    have V6 : Vw ρ6 [] oa cells := .inr (Rd.of_sl O6 (by simp) h1)
    simp only [oB_some, bC_true, bC_false, vInt_int, vBool_bool, vStr_string, vPtr_pointer, vSl_slice, vMap_map, vFun_func, vAgg_agg, vTup_tuple, vIfc_nil, vIfc_iface, lC_cons, lN_nil, aP_some, shO_none, shO_some, Option.isNone_none, Option.isNone_some, Bool.not_true, Bool.not_false]
    refine w_copy O6 p00 rfl rfl rfl fun h7 μ7 ρ7 c7 O7 W7 hc7 => ?_
    have F7 : Fra [] ρ6 ρ7 := W7.fra0 fun c hc => by simp at hc; rw [hc]; exact hc7
    have L7 := L6'.mono fun _ _ x => Vw.keep x F7
    have V7 := V6.keep F7
    repeat (first | refine ⟨rfl, ?_⟩ | refine ⟨trivial, ?_⟩ | simp only [oB_some, bC_true, bC_false, vInt_int, vBool_bool, vStr_string, vPtr_pointer, vSl_slice, vMap_map, vFun_func, vAgg_agg, vTup_tuple, vIfc_nil, vIfc_iface, lC_cons, lN_nil, aP_some, shO_none, shO_some, Option.isNone_none, Option.isNone_some, Bool.not_true, Bool.not_false] | refine w_rd (by assumption) (by assumption) 0 (by rfl) (by rfl) ?_ | refine w_wrL (by assumption) (by assumption) 0 (by rfl) (Nat.le_of_ble_eq_true (by rfl)) (by rfl) fun h ρz O W => ?_ | refine w_wr (by assumption) (by assumption) 0 (by rfl) (Nat.le_of_ble_eq_true (by rfl)) (by rfl) fun h ρz O W => ?_)
    refine st_open (pre := .nil) O7 V7 L7 rfl rfl fun i off aa ac ba bc va la SA => ?_
    refine oB_bind (SA O7 Fra.refl).r0 ?_
    simp only [oB_some, bC_true, bC_false, vInt_int, vBool_bool, vStr_string, vPtr_pointer, vSl_slice, vMap_map, vFun_func, vAgg_agg, vTup_tuple, vIfc_nil, vIfc_iface, lC_cons, lN_nil, aP_some, shO_none, shO_some, Option.isNone_none, Option.isNone_some, Bool.not_true, Bool.not_false]
    refine st_open (pre := .nil) O7 V7 L7 rfl rfl fun i off aa ac ba bc va la SA => ?_
    refine oB_bind (SA O7 Fra.refl).r3 ?_
    simp only [oB_some, bC_true, bC_false, vInt_int, vBool_bool, vStr_string, vPtr_pointer, vSl_slice, vMap_map, vFun_func, vAgg_agg, vTup_tuple, vIfc_nil, vIfc_iface, lC_cons, lN_nil, aP_some, shO_none, shO_some, Option.isNone_none, Option.isNone_some, Bool.not_true, Bool.not_false]
    refine st_open (pre := .cons 11 [wList] 0 (.cons 2 [wAt] 0 .nil .nil) .nil) O7 V7 L7 rfl rfl fun i off aa ac ba bc va la SA => ?_
    refine oB_bind (SA O7 Fra.refl).r1 ?_
    simp only [oB_some, bC_true, bC_false, vInt_int, vBool_bool, vStr_string, vPtr_pointer, vSl_slice, vMap_map, vFun_func, vAgg_agg, vTup_tuple, vIfc_nil, vIfc_iface, lC_cons, lN_nil, aP_some, shO_none, shO_some, Option.isNone_none, Option.isNone_some, Bool.not_true, Bool.not_false]
    refine st_open (pre := .cons 11 [wList] 0 (.cons 2 [wAt] 0 .nil .nil) .nil) O7 V7 L7 rfl rfl fun i off aa ac ba bc va la SA => ?_
    refine oB_bind (SA O7 Fra.refl).r1 ?_
    simp only [oB_some, bC_true, bC_false, vInt_int, vBool_bool, vStr_string, vPtr_pointer, vSl_slice, vMap_map, vFun_func, vAgg_agg, vTup_tuple, vIfc_nil, vIfc_iface, lC_cons, lN_nil, aP_some, shO_none, shO_some, Option.isNone_none, Option.isNone_some, Bool.not_true, Bool.not_false]
    refine wd_at (j := 0) O7 va rfl rfl (by simp) ?_
    exact hq _ _ _ O7 (F6.trans F7)
end Go.Proofs.YtgdkekdedgkglaaDoor
end

section
/- Statements made by hand: the law's walk. -/
namespace Go.Proofs.YtgdkekdedgkglaaDoor
open Go.Abs Go.Abs.Fo
set_option maxRecDepth 100000
attribute [local irreducible] unitAt EvQ
variable {h : AW} {μ : Paint} {ρ ρ' : Store} {Q : Value → AW → Prop}
/-- What the lines and the text come to. -/
def linesM (f : F) : List Line := if f.may then f.lines else []
def errM (f : F) : Int := if f.may then 0 else 2
theorem lns_none {ρ : Store} : Lns ρ [] none := ⟨Vw.nil, fun p hp => by simp at hp, fun p hp => by simp at hp⟩
theorem linesC_ok (O : Own h μ ρ) (T : Vw ρ [] (some ⟨2, 0, none⟩) pow10) {f : F} {a : Option Addr} {cap : Nat} (X : Ly ρ f a) (hl : f.len ≤ 140737488355328) (hz : f.size ≤ 1000000000) (hs : Slim f)
    (H : ∀ h' μ' ρ' oa oc ps, Own h' μ' ρ' → Fra [] ρ ρ' → Lns ρ' ps oa → ps.map Wds.x = linesM f → Q (.tuple ⟨[.slice oa ps.length oc, .int .i64 (errM f)]⟩) h') : EvQ P f_action_Lines [.slice a f.len cap] h Q := by
  refine linesB_ok O T X hl hz hs (fun e h1 μ1 ρ1 O1 F1 => ?_) (fun e h1 μ1 ρ1 co cm oa oc ps vs O1 W1 hco hcm B e1 => ?_)
  · have := H h1 μ1 ρ1 none 0 [] O1 F1 lns_none (by unfold linesM; rw [e]; rfl)
    unfold errM at this
    rw [e] at this
    exact this
  · have := H h1 μ1 ρ1 oa oc ps O1 (W1.fra0 fun c hc => by simp at hc; rcases hc with rfl | rfl <;> assumption) (B.lns O1 (W1.at_ 0 _ _ rfl rfl) (W1.at_ 1 _ _ rfl rfl)) (by unfold linesM; rw [e, if_pos rfl]; exact e1)
    unfold errM at this
    rw [e, if_pos rfl] at this
    exact this
theorem rlinesC_ok (O : Own h μ ρ) {f : F} {a : Option Addr} {cap : Nat} (X : Ly ρ f a) (hl : f.len ≤ 140737488355328) (hz : f.size ≤ 1000000000) (hs : Slim f)
    (H : ∀ h' μ' ρ' oa oc ps, Own h' μ' ρ' → Fra [] ρ ρ' → Lns ρ' ps oa → ps.map Wds.x = linesM f → Q (.tuple ⟨[.slice oa ps.length oc, .int .i64 (errM f)]⟩) h') : EvQ P f_brickyardref13_Lines [.slice a f.len cap] h Q := by
  refine rlinesB_ok O X hl hz hs (fun e h1 μ1 ρ1 O1 F1 => ?_) (fun e h1 μ1 ρ1 co cm oa oc ps vs O1 W1 hco hcm B e1 => ?_)
  · have := H h1 μ1 ρ1 none 0 [] O1 F1 lns_none (by unfold linesM; rw [e]; rfl)
    unfold errM at this
    rw [e] at this
    exact this
  · have := H h1 μ1 ρ1 oa oc ps O1 (W1.fra0 fun c hc => by simp at hc; rcases hc with rfl | rfl <;> assumption) (B.lns O1 (W1.at_ 0 _ _ rfl rfl) (W1.at_ 1 _ _ rfl rfl)) (by unfold linesM; rw [e, if_pos rfl]; exact e1)
    unfold errM at this
    rw [e, if_pos rfl] at this
    exact this
theorem txt_lines {f : F} {ps : List Wds} (e : ps.map Wds.x = linesM f) (hf : full f ≤ 262143) : Txt ps := by
  unfold linesM at e
  split at e
  · exact txt_of e hf
  · have : ps = [] := by simpa using e
    subst this
    exact ⟨Nat.zero_le _, fun p hp => by simp at hp, fun p hp => by simp at hp, by simp [prL]⟩
theorem print_ok (O : Own h μ ρ) (T : Vw ρ [] (some ⟨2, 0, none⟩) pow10) {f : F} {a : Option Addr} {cap : Nat} (X : Ly ρ f a) (hl : f.len ≤ 140737488355328) (hz : f.size ≤ 1000000000) (hs : Slim f) (hf : full f ≤ 262143)
    (hq : RdQ Q ρ (.tuple ⟨[.string ⟨⟨prL (linesM f)⟩⟩, .int .i64 (errM f)]⟩)) : EvQ P f_action_Print [.slice a f.len cap] h Q := by
  refine r_action_Print ?_
  refine linesC_ok O T X hl hz hs fun h1 μ1 ρ1 oa oc ps O1 F1 Z e => ?_
  have B := txt_lines e hf
  simp only [oB_some, bC_true, bC_false, vInt_int, vBool_bool, vStr_string, vPtr_pointer, vSl_slice, vMap_map, vFun_func, vAgg_agg, vTup_tuple, vIfc_nil, vIfc_iface, lC_cons, lN_nil, aP_some, shO_none, shO_some, Option.isNone_none, Option.isNone_some, Bool.not_true, Bool.not_false]
  cases hm : f.may with
  | false =>
    have e2 : errM f = 2 := by unfold errM; rw [hm]; rfl
    have e1 : linesM f = [] := by unfold linesM; rw [hm]; rfl
    rw [e1, e2] at hq
    rw [e2]
    show bC true _ _
    simp only [oB_some, bC_true, bC_false, vInt_int, vBool_bool, vStr_string, vPtr_pointer, vSl_slice, vMap_map, vFun_func, vAgg_agg, vTup_tuple, vIfc_nil, vIfc_iface, lC_cons, lN_nil, aP_some, shO_none, shO_some, Option.isNone_none, Option.isNone_some, Bool.not_true, Bool.not_false]
    exact hq _ _ _ O1 F1
  | true =>
    have e2 : errM f = 0 := by unfold errM; rw [hm]; rfl
    rw [e2] at hq
    rw [e2]
    show bC false _ _
    simp only [oB_some, bC_true, bC_false, vInt_int, vBool_bool, vStr_string, vPtr_pointer, vSl_slice, vMap_map, vFun_func, vAgg_agg, vTup_tuple, vIfc_nil, vIfc_iface, lC_cons, lN_nil, aP_some, shO_none, shO_some, Option.isNone_none, Option.isNone_some, Bool.not_true, Bool.not_false]
    obtain ⟨μ2, ρ2, n1, n2, n3, n4, O2, W2, h1, h2, h3, h4⟩ := new_bld O1 p00
    refine aprint_6 Z B h1 h2 h3 h4 (by rw [e]; exact hq.keep F1) _ 0 rfl (Nat.zero_le _) O2 W2 (.inl rfl) (fun _ => rfl) (by rw [List.drop_zero, List.nil_append])
theorem rprint_ok (O : Own h μ ρ) {f : F} {a : Option Addr} {cap : Nat} (X : Ly ρ f a) (hl : f.len ≤ 140737488355328) (hz : f.size ≤ 1000000000) (hs : Slim f) (hf : full f ≤ 262143)
    (hq : RdQ Q ρ (.tuple ⟨[.string ⟨⟨prL (linesM f)⟩⟩, .int .i64 (errM f)]⟩)) : EvQ P f_brickyardref13_Print [.slice a f.len cap] h Q := by
  refine r_brickyardref13_Print ?_
  refine rlinesC_ok O X hl hz hs fun h1 μ1 ρ1 oa oc ps O1 F1 Z e => ?_
  have B := txt_lines e hf
  simp only [oB_some, bC_true, bC_false, vInt_int, vBool_bool, vStr_string, vPtr_pointer, vSl_slice, vMap_map, vFun_func, vAgg_agg, vTup_tuple, vIfc_nil, vIfc_iface, lC_cons, lN_nil, aP_some, shO_none, shO_some, Option.isNone_none, Option.isNone_some, Bool.not_true, Bool.not_false]
  obtain ⟨ρ2, co, O2, W2, hco⟩ := w_nil O1 p00 1
  exact rprint_4 Z B hco (by rw [e]; exact hq.keep F1) _ 0 (acc := []) rfl (Nat.zero_le _) O2 W2 (by rw [List.drop_zero, List.nil_append])
theorem actionPrints_ok (O : Own h μ ρ) (T : Vw ρ [] (some ⟨2, 0, none⟩) pow10) {f : F} {a : Option Addr} {cap : Nat} (X : Ly ρ f a) (hf : Fits f) (hl : f.len ≤ 140737488351232) (hq : ∀ h', Q (.bool true) h') :
    EvQ P f_brickyardlaw13_ActionPrints [.slice a f.len cap] h Q := by
  refine r_brickyardlaw13_ActionPrints ?_
  refine works_ok O fun h1 μ1 ρ1 O1 F1 => ?_
  simp only [oB_some, bC_true, bC_false, vInt_int, vBool_bool, vStr_string, vPtr_pointer, vSl_slice, vMap_map, vFun_func, vAgg_agg, vTup_tuple, vIfc_nil, vIfc_iface, lC_cons, lN_nil, aP_some, shO_none, shO_some, Option.isNone_none, Option.isNone_some, Bool.not_true, Bool.not_false]
  refine great_ok O1 (X.keep F1) hf (by omega) ?_
  simp only [oB_some, bC_true, bC_false, vInt_int, vBool_bool, vStr_string, vPtr_pointer, vSl_slice, vMap_map, vFun_func, vAgg_agg, vTup_tuple, vIfc_nil, vIfc_iface, lC_cons, lN_nil, aP_some, shO_none, shO_some, Option.isNone_none, Option.isNone_some, Bool.not_true, Bool.not_false]
  refine bC_iff (fun _ => hq _) (fun hg => ?_)
  obtain ⟨hfull, _⟩ := great_not hg
  have hs : Slim f := slim_full (by omega)
  have hz : f.size ≤ 1000000000 := by have := F.size_full f; omega
  have hl2 : f.len ≤ 140737488355328 := by omega
  refine linesC_ok O1 (T.keep F1) (X.keep F1) hl2 hz hs fun h2 μ2 ρ2 oa oc ps O2 F2 Z e => ?_
  have F2 := F1.trans F2
  simp only [oB_some, bC_true, bC_false, vInt_int, vBool_bool, vStr_string, vPtr_pointer, vSl_slice, vMap_map, vFun_func, vAgg_agg, vTup_tuple, vIfc_nil, vIfc_iface, lC_cons, lN_nil, aP_some, shO_none, shO_some, Option.isNone_none, Option.isNone_some, Bool.not_true, Bool.not_false]
  refine rlinesC_ok O2 (X.keep F2) hl2 hz hs fun h3 μ3 ρ3 ob oc2 qs O3 F3 Y e2 => ?_
  have Z := Z.keep F3
  have F3 := F2.trans F3
  simp only [oB_some, bC_true, bC_false, vInt_int, vBool_bool, vStr_string, vPtr_pointer, vSl_slice, vMap_map, vFun_func, vAgg_agg, vTup_tuple, vIfc_nil, vIfc_iface, lC_cons, lN_nil, aP_some, shO_none, shO_some, Option.isNone_none, Option.isNone_some, Bool.not_true, Bool.not_false]
  refine print_ok O3 (T.keep F3) (X.keep F3) hl2 hz hs (by omega) fun h4 μ4 ρ4 O4 F4 => ?_
  have Z := Z.keep F4
  have Y := Y.keep F4
  have F4 := F3.trans F4
  simp only [oB_some, bC_true, bC_false, vInt_int, vBool_bool, vStr_string, vPtr_pointer, vSl_slice, vMap_map, vFun_func, vAgg_agg, vTup_tuple, vIfc_nil, vIfc_iface, lC_cons, lN_nil, aP_some, shO_none, shO_some, Option.isNone_none, Option.isNone_some, Bool.not_true, Bool.not_false]
  refine rprint_ok O4 (X.keep F4) hl2 hz hs (by omega) fun h5 μ5 ρ5 O5 F5 => ?_
  have Z := Z.keep F5
  have Y := Y.keep F5
  have F5 := F4.trans F5
  simp only [oB_some, bC_true, bC_false, vInt_int, vBool_bool, vStr_string, vPtr_pointer, vSl_slice, vMap_map, vFun_func, vAgg_agg, vTup_tuple, vIfc_nil, vIfc_iface, lC_cons, lN_nil, aP_some, shO_none, shO_some, Option.isNone_none, Option.isNone_some, Bool.not_true, Bool.not_false]
  refine may_ok O5 (X.keep F5) hz fun h6 μ6 ρ6 O6 F6 => ?_
  have Z := Z.keep F6
  have Y := Y.keep F6
  have F6 := F5.trans F6
  simp only [oB_some, bC_true, bC_false, vInt_int, vBool_bool, vStr_string, vPtr_pointer, vSl_slice, vMap_map, vFun_func, vAgg_agg, vTup_tuple, vIfc_nil, vIfc_iface, lC_cons, lN_nil, aP_some, shO_none, shO_some, Option.isNone_none, Option.isNone_some, Bool.not_true, Bool.not_false]
  refine rmay_ok O6 (X.keep F6) hz fun h7 μ7 ρ7 O7 F7 => ?_
  have Z := Z.keep F7
  have Y := Y.keep F7
  have F7 := F6.trans F7
  simp only [oB_some, bC_true, bC_false, vInt_int, vBool_bool, vStr_string, vPtr_pointer, vSl_slice, vMap_map, vFun_func, vAgg_agg, vTup_tuple, vIfc_nil, vIfc_iface, lC_cons, lN_nil, aP_some, shO_none, shO_some, Option.isNone_none, Option.isNone_some, Bool.not_true, Bool.not_false]
  rw [show (f.may == f.may) = true from by simp]
  simp only [oB_some, bC_true, bC_false, vInt_int, vBool_bool, vStr_string, vPtr_pointer, vSl_slice, vMap_map, vFun_func, vAgg_agg, vTup_tuple, vIfc_nil, vIfc_iface, lC_cons, lN_nil, aP_some, shO_none, shO_some, Option.isNone_none, Option.isNone_some, Bool.not_true, Bool.not_false]
  refine size_ok O7 (X.keep F7) hz fun h8 μ8 ρ8 O8 F8 => ?_
  have Z := Z.keep F8
  have Y := Y.keep F8
  have F8 := F7.trans F8
  simp only [oB_some, bC_true, bC_false, vInt_int, vBool_bool, vStr_string, vPtr_pointer, vSl_slice, vMap_map, vFun_func, vAgg_agg, vTup_tuple, vIfc_nil, vIfc_iface, lC_cons, lN_nil, aP_some, shO_none, shO_some, Option.isNone_none, Option.isNone_some, Bool.not_true, Bool.not_false]
  refine rsize_ok O8 (X.keep F8) hz fun h9 μ9 ρ9 O9 F9 => ?_
  have Z := Z.keep F9
  have Y := Y.keep F9
  have F9 := F8.trans F9
  simp only [oB_some, bC_true, bC_false, vInt_int, vBool_bool, vStr_string, vPtr_pointer, vSl_slice, vMap_map, vFun_func, vAgg_agg, vTup_tuple, vIfc_nil, vIfc_iface, lC_cons, lN_nil, aP_some, shO_none, shO_some, Option.isNone_none, Option.isNone_some, Bool.not_true, Bool.not_false]
  rw [show ((f.size : Int) == (f.size : Int)) = true from by simp]
  simp only [oB_some, bC_true, bC_false, vInt_int, vBool_bool, vStr_string, vPtr_pointer, vSl_slice, vMap_map, vFun_func, vAgg_agg, vTup_tuple, vIfc_nil, vIfc_iface, lC_cons, lN_nil, aP_some, shO_none, shO_some, Option.isNone_none, Option.isNone_some, Bool.not_true, Bool.not_false]
  refine deep_ok O9 (X.keep F9) hz fun h10 μ10 ρ10 O10 F10 => ?_
  have Z := Z.keep F10
  have Y := Y.keep F10
  have F10 := F9.trans F10
  simp only [oB_some, bC_true, bC_false, vInt_int, vBool_bool, vStr_string, vPtr_pointer, vSl_slice, vMap_map, vFun_func, vAgg_agg, vTup_tuple, vIfc_nil, vIfc_iface, lC_cons, lN_nil, aP_some, shO_none, shO_some, Option.isNone_none, Option.isNone_some, Bool.not_true, Bool.not_false]
  refine rdeep_ok O10 (X.keep F10) hz fun h11 μ11 ρ11 O11 F11 => ?_
  have Z := Z.keep F11
  have Y := Y.keep F11
  have F11 := F10.trans F11
  simp only [oB_some, bC_true, bC_false, vInt_int, vBool_bool, vStr_string, vPtr_pointer, vSl_slice, vMap_map, vFun_func, vAgg_agg, vTup_tuple, vIfc_nil, vIfc_iface, lC_cons, lN_nil, aP_some, shO_none, shO_some, Option.isNone_none, Option.isNone_some, Bool.not_true, Bool.not_false]
  rw [show ((f.deep : Int) == (f.deep : Int)) = true from by simp]
  simp only [oB_some, bC_true, bC_false, vInt_int, vBool_bool, vStr_string, vPtr_pointer, vSl_slice, vMap_map, vFun_func, vAgg_agg, vTup_tuple, vIfc_nil, vIfc_iface, lC_cons, lN_nil, aP_some, shO_none, shO_some, Option.isNone_none, Option.isNone_some, Bool.not_true, Bool.not_false]
  have B := txt_lines e (show full f ≤ 262143 by omega)
  refine alike_ok O11 Z Y (e.trans e2.symm) B.len B.wds ?_
  simp only [oB_some, bC_true, bC_false, vInt_int, vBool_bool, vStr_string, vPtr_pointer, vSl_slice, vMap_map, vFun_func, vAgg_agg, vTup_tuple, vIfc_nil, vIfc_iface, lC_cons, lN_nil, aP_some, shO_none, shO_some, Option.isNone_none, Option.isNone_some, Bool.not_true, Bool.not_false]
  rw [show (errM f == errM f) = true from by simp]
  simp only [oB_some, bC_true, bC_false, vInt_int, vBool_bool, vStr_string, vPtr_pointer, vSl_slice, vMap_map, vFun_func, vAgg_agg, vTup_tuple, vIfc_nil, vIfc_iface, lC_cons, lN_nil, aP_some, shO_none, shO_some, Option.isNone_none, Option.isNone_some, Bool.not_true, Bool.not_false]
  rw [show bEq (⟨⟨prL (linesM f)⟩⟩ : ByteArray) ⟨⟨prL (linesM f)⟩⟩ = true from bEq_iff.2 rfl]
  simp only [oB_some, bC_true, bC_false, vInt_int, vBool_bool, vStr_string, vPtr_pointer, vSl_slice, vMap_map, vFun_func, vAgg_agg, vTup_tuple, vIfc_nil, vIfc_iface, lC_cons, lN_nil, aP_some, shO_none, shO_some, Option.isNone_none, Option.isNone_some, Bool.not_true, Bool.not_false]
  exact hq _
end Go.Proofs.YtgdkekdedgkglaaDoor
end

section
/- A string's copy; the library's errors. -/
namespace Go.Proofs.YtgdkekdedgkglaaDoor
open Go.Abs Go.Abs.Fo
set_option maxRecDepth 100000
attribute [local irreducible] unitAt EvQ
variable {h : AW} {μ : Paint} {ρ : Store} {Q : Value → AW → Prop}
/-- One of the library's errors stands at a package variable. -/
def Err1 (ρ : Store) (g : Nat) : Prop := ∃ t v, Vw ρ [] (some ⟨g, 0, none⟩) [.iface t v] ∧ ifcB v = true
theorem Err1.keep {ρ ρ' : Store} {g : Nat} (E : Err1 ρ g) (F : Fra [] ρ ρ') : Err1 ρ' g := by
  obtain ⟨t, v, h1, h2⟩ := E
  exact ⟨t, v, h1.keep F, h2⟩
/-- Both errors of the library. -/
structure Errs (ρ : Store) : Prop where
  syn : Err1 ρ 0
  rng : Err1 ρ 1
theorem Errs.keep {ρ ρ' : Store} (E : Errs ρ) (F : Fra [] ρ ρ') : Errs ρ' := ⟨E.syn.keep F, E.rng.keep F⟩
end Go.Proofs.YtgdkekdedgkglaaDoor
end

section
/- What the rows of layer 13 share: types, a world for the witness. -/
open Go.RowKit
namespace Go.Proofs.YtgdkekdedgkglaaDoor
open Go.Abs Go.Abs.Fo Go.ChangeShapes Go.WideShapes
set_option maxRecDepth 100000
theorem own_knob : ownKnob Tryd.prog.godebug = none := by kernel_rfl
theorem st_types : StT Tryd.prog 39 46 3 26 9 #[⟨"Op", 3, 0, false, "", "", 0⟩, ⟨"Args", 26, 1, false, "", "", 8⟩, ⟨"N", 3, 2, false, "", "", 32⟩, ⟨"Body", 39, 3, false, "", "", 40⟩] :=
  ⟨by kernel_rfl, by kernel_rfl, by kernel_rfl, by kernel_rfl, by kernel_rfl, by kernel_rfl, by kernel_rfl, by kernel_rfl, by kernel_rfl, by kernel_rfl, of_decide_eq_true (by kernel_rfl), of_decide_eq_true (by kernel_rfl), ⟨_, rfl, rfl, rfl⟩, ⟨_, rfl, rfl, rfl⟩, ⟨_, rfl, rfl, rfl⟩, ⟨_, rfl, rfl, rfl⟩⟩
theorem ly_of {W : World} {f : F} {cells : List Value} {a : Option Addr} {vs ws : List (Option Addr × List Value)} (G : GoodV W ws) (hs : ∀ x, x ∈ vs → x ∈ ws) (V : Vin vs a cells) (L : Lies (Vin vs) f cells) : Ly (argStore ws) f a :=
  ⟨cells, (V.mono hs).vw G, L.mono fun _ _ x => (x.mono hs).vw G⟩
/-- A world for the witness: the tables and the errors hold what their initialisers lay. -/
noncomputable def lowB : Nat := (World.holding Tryd.prog default ⟨#[], #[], []⟩).heap.size
abbrev textRange : ByteArray := ⟨#[118, 97, 108, 117, 101, 32, 111, 117, 116, 32, 111, 102, 32, 114, 97, 110, 103, 101]⟩
abbrev textSyntax : ByteArray := ⟨#[105, 110, 118, 97, 108, 105, 100, 32, 115, 121, 110, 116, 97, 120]⟩
noncomputable def laidW (os : Os) : World :=
  let w0 := World.holding Tryd.prog os ⟨#[.cells #[.string textRange] 155, .cells #[.string textSyntax] 155], #[], []⟩
  { w0 with heap := ((putTab w0.heap [(4, Rows.laid_math_bits_deBruijn32tab), (5, Rows.laid_math_bits_deBruijn64tab), (2, Rows.laid_internal_strconv_uint64pow10)]).modify 1 fun
      | .cells _ t frozen => .cells #[.iface 153 (.pointer (some ⟨lowB, 0, none⟩))] t frozen
      | o => o).modify 0 fun
      | .cells _ t frozen => .cells #[.iface 153 (.pointer (some ⟨lowB + 1, 0, none⟩))] t frozen
      | o => o }
theorem laid_met {args : Array Value} (os : Os) : laidMet Tryd.prog Rows.actionSameRow.laid ((laidW os).forCall (fun _ _ => 0) ⟨#[], args, []⟩).memory :=
  laidMet_of_run' 8 (by kernel_rfl) (by kernel_rfl)
/-- The powers of ten, as the row lists them. -/
theorem pow_good {W : World} {rest : List (String × DataW Unit)} (h : laidMet Tryd.prog (("internal/strconv.uint64pow10", Rows.laid_internal_strconv_uint64pow10) :: rest) W) : GoodV W [(some ⟨2, 0, none⟩, pow10)] := by
  have ht : Lib.TabIs Tryd.prog W "internal/strconv.uint64pow10" .u64 [1, 10, 100, 1000, 10000, 100000, 1000000, 10000000, 100000000, 1000000000, 10000000000, 100000000000, 1000000000000, 10000000000000, 100000000000000, 1000000000000000, 10000000000000000, 100000000000000000, 1000000000000000000, 10000000000000000000] :=
    Lib.tabIs_of_head (g := 2) (t := 157) (e := 137) (n := 20) (by kernel_rfl) (by kernel_rfl) (by kernel_rfl) (by kernel_rfl) (by kernel_rfl) (by kernel_rfl) h
  have hg : Tryd.prog.globalNamed "internal/strconv.uint64pow10" = some 2 := by kernel_rfl
  intro a l hm
  simp at hm
  obtain ⟨rfl, rfl⟩ := hm
  refine ⟨2, 0, rfl, ?_, fun j hj => ?_⟩
  · have := cell_block (ht.cell hg 0 (by simp))
    simp only at this
    omega
  · have hc := ht.cell hg j (by simpa using hj)
    rw [Nat.zero_add]
    have := mir_rd hc (.int _ _)
    rw [this]
    have e : ∀ k : Fin 20, pow10[k.1]? = some (.int .u64 ([1, 10, 100, 1000, 10000, 100000, 1000000, 10000000, 100000000, 1000000000, 10000000000, 100000000000, 1000000000000, 10000000000000, 100000000000000, 1000000000000000, 10000000000000000, 100000000000000000, 1000000000000000000, 10000000000000000000].getD k.1 0)) := by
      intro k
      match k with
      | ⟨0, _⟩ | ⟨1, _⟩ | ⟨2, _⟩ | ⟨3, _⟩ | ⟨4, _⟩ | ⟨5, _⟩ | ⟨6, _⟩ | ⟨7, _⟩ | ⟨8, _⟩ | ⟨9, _⟩ | ⟨10, _⟩ | ⟨11, _⟩ | ⟨12, _⟩ | ⟨13, _⟩ | ⟨14, _⟩ | ⟨15, _⟩ | ⟨16, _⟩ | ⟨17, _⟩ | ⟨18, _⟩ | ⟨19, _⟩ => rfl
      | ⟨k + 20, hk⟩ => exact absurd hk (by omega)
    rw [e ⟨j, by simpa using hj⟩]
    rfl
end Go.Proofs.YtgdkekdedgkglaaDoor
end
