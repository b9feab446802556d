/- A deterministic heap for the model, proved sound, and walks of the program over it: part 9. No condition. -/
import Derived.Test.YtamoepfiodgbbaaGreatDoorAb1
import Derived.Test.YtamoepfiodgbbaaGreatDoorAb2
import Derived.Test.YtamoepfiodgbbaaGreatDoorAb3
import Derived.Test.YtamoepfiodgbbaaGreatDoorAb4
import Derived.Test.YtamoepfiodgbbaaGreatDoorAb6
import Derived.Test.YtamoepfiodgbbaaGreatDoorCd2
import Derived.Test.YtamoepfiodgbbaaGreatDoorCd1
import Derived.Test.YtamoepfiodgbbaaGreatDoorAb5
set_option linter.unusedVariables false
set_option linter.unusedSimpArgs false
set_option linter.unusedSectionVars false
section
/- Numbers out of words: where they may be had. -/
namespace Go.Proofs.YtamoepfiodgbbaaGreatDoor
open Go.Abs Go.Abs.Fo
/-- Of these words a number is asked. -/
def Tbs (G : Str → Prop) (ρ : Store) : Prop :=
  ∀ {h : AW} {μ : Paint} {ρ' : Store} {s : Str} {Q : Value → AW → Prop}, Own h μ ρ' → Fra [] ρ ρ' → G s → RdQ Q ρ' (.int .i64 (numM s)) → EvQ P f_action_number [.string s] h Q
theorem Tbs.keep {G : Str → Prop} {ρ ρ' : Store} (T : Tbs G ρ) (F : Fra [] ρ ρ') : Tbs G ρ' := fun O F' => T O (F.trans F')
theorem Tbs.none {ρ : Store} : Tbs (fun _ => False) ρ := fun _ _ g => g.elim
end Go.Proofs.YtamoepfiodgbbaaGreatDoor
end

section
/- A line as a statement. -/
namespace Go.Proofs.YtamoepfiodgbbaaGreatDoor
open Go.Abs Go.Abs.Fo
set_option maxRecDepth 100000
attribute [local irreducible] unitAt EvQ
variable {h : AW} {μ : Paint} {ρ : Store} {Q : Value → AW → Prop}

theorem word_ok (O : Own h μ ρ) {k : Nat} (hk : k ≤ 12) (hq : RdQ Q ρ (.string (wordM k))) : EvQ P f_action_word [.int .i64 (k : Int)] h Q := by
  refine r_action_word ?_
  refine w_copy O p00 rfl rfl rfl fun h1 μ1 ρ1 c1 O1 W1 hc1 => ?_
  have F1 : Fra [] ρ ρ1 := W1.fra0 fun c hc => by simp at hc; rw [hc]; exact hc1
  rw [show decide ((k : Int) < 0) = false from decide_eq_false (by omega)]
  simp only [oB_some, bC_true, bC_false, vInt_int, vBool_bool, vStr_string, vPtr_pointer, vSl_slice, vMap_map, vFun_func, vAgg_agg, vTup_tuple, vIfc_nil, vIfc_iface, lC_cons, lN_nil, aP_some, shO_none, shO_some, Option.isNone_none, Option.isNone_some, Bool.not_true, Bool.not_false]
  rw [show decide ((k : Int) ≥ 13) = false from decide_eq_false (by omega)]
  simp only [oB_some, bC_true, bC_false, vInt_int, vBool_bool, vStr_string, vPtr_pointer, vSl_slice, vMap_map, vFun_func, vAgg_agg, vTup_tuple, vIfc_nil, vIfc_iface, lC_cons, lN_nil, aP_some, shO_none, shO_some, Option.isNone_none, Option.isNone_some, Bool.not_true, Bool.not_false]
  rw [natIdx_eq (show k < 13 by omega)]
  simp only [oB_some, bC_true, bC_false, vInt_int, vBool_bool, vStr_string, vPtr_pointer, vSl_slice, vMap_map, vFun_func, vAgg_agg, vTup_tuple, vIfc_nil, vIfc_iface, lC_cons, lN_nil, aP_some, shO_none, shO_some, Option.isNone_none, Option.isNone_some, Bool.not_true, Bool.not_false]
  have hv : (kinds.map Value.string)[k]? = some (.string (wordM k)) := by
    have : wordM (k : Int) = (kinds[k]?).getD e0 := rfl
    rw [this, List.getElem?_map, List.getElem?_eq_getElem (by simp; omega)]; rfl
  rw [show 0 + k * 1 = k from by omega]
  refine w_rd O1 W1 0 rfl hv ?_
  simp only [oB_some, bC_true, bC_false, vInt_int, vBool_bool, vStr_string, vPtr_pointer, vSl_slice, vMap_map, vFun_func, vAgg_agg, vTup_tuple, vIfc_nil, vIfc_iface, lC_cons, lN_nil, aP_some, shO_none, shO_some, Option.isNone_none, Option.isNone_some, Bool.not_true, Bool.not_false]
  exact hq _ _ _ O1 F1
/-- A statement comes back, its words in a slice of its own. -/
def NewX (Q : Value → AW → Prop) (ρ : Store) (x : X) : Prop :=
  ∀ h' μ' ρ' co oa oc, Own h' μ' ρ' → Pcs ρ ρ' [co] [.sl oa oc 1 (strs x.args)] → ρ co = none →
    Q (.tuple ⟨[.agg ⟨[.int .i64 x.op, .slice oa x.args.length oc, .int .i64 x.n, .slice none 0 0]⟩, .bool x.ok]⟩) h'
theorem NewX.none {x : X} (hq : NewX Q ρ x) (e : x.args = []) {ρ' : Store} {μ' : Paint} {h' : AW} (O' : Own h' μ' ρ') (F : Fra [] ρ ρ') :
    Q (.tuple ⟨[.agg ⟨[.int .i64 x.op, .slice Option.none 0 0, .int .i64 x.n, .slice Option.none 0 0]⟩, .bool x.ok]⟩) h' := by
  obtain ⟨ρ1, c1, O1, W1, hc1⟩ := w_nil O' (Pcs.mk (ρ0 := ρ) (ns := []) (rs := []) List.nodup_nil rfl (by intro i c r h; simp at h) F) 1
  have := hq h' μ' ρ1 c1 Option.none 0 O1 (by rw [e]; exact W1) hc1
  rw [e] at this
  exact this
end Go.Proofs.YtamoepfiodgbbaaGreatDoor
end

section
/- Reading lines of words: the walk. -/
namespace Go.Proofs.YtamoepfiodgbbaaGreatDoor
open Go.Abs Go.Abs.Fo
set_option maxRecDepth 100000
attribute [local irreducible] unitAt EvQ
variable {h : AW} {μ : Paint} {ρ : Store} {Q : Value → AW → Prop}

end Go.Proofs.YtamoepfiodgbbaaGreatDoor
end

section
/- The document's reading of a line. -/
namespace Go.Proofs.YtamoepfiodgbbaaGreatDoor
open Go.Abs Go.Abs.Fo
set_option maxRecDepth 100000
attribute [local irreducible] unitAt EvQ
variable {h : AW} {μ : Paint} {ρ : Store} {Q : Value → AW → Prop}

end Go.Proofs.YtamoepfiodgbbaaGreatDoor
end

section
/- The document's statements up to an end. -/
namespace Go.Proofs.YtamoepfiodgbbaaGreatDoor
open Go.Abs Go.Abs.Fo
set_option maxRecDepth 100000
attribute [local irreducible] unitAt EvQ
variable {h : AW} {μ : Paint} {ρ : Store} {Q : Value → AW → Prop}

end Go.Proofs.YtamoepfiodgbbaaGreatDoor
end

section
/- Lines of words as statements: made, and as said. -/
namespace Go.Proofs.YtamoepfiodgbbaaGreatDoor
open Go.Abs Go.Abs.Fo
set_option maxRecDepth 100000
attribute [local irreducible] unitAt EvQ
variable {h : AW} {μ : Paint} {ρ : Store} {Q : Value → AW → Prop}

/-- What a reading of lines comes to. -/
def NewP (Q : Value → AW → Prop) (ρ : Store) (p : F × Int × Int) : Prop :=
  ∀ h' μ' ρ' co cm oa oc cells vs, Own h' μ' ρ' → Pcs ρ ρ' [co, cm] [.sl oa oc 4 cells, .many vs] → ρ co = none → ρ cm = none → Lies (Vm vs) p.1 cells →
    Q (.tuple ⟨[.slice oa p.1.len oc, .agg ⟨[.int .i64 p.2.1, .int .i64 p.2.2]⟩]⟩) h'
theorem NewP.nil {p : F × Int × Int} (hq : NewP Q ρ p) (e : p.1 = .nil) {h' : AW} {μ' : Paint} {ρ' : Store} (O : Own h' μ' ρ') (F : Fra [] ρ ρ') : Q (.tuple ⟨[.slice Option.none 0 0, .agg ⟨[.int .i64 p.2.1, .int .i64 p.2.2]⟩]⟩) h' := by
  obtain ⟨ρ1, c1, O1, W1, hc1⟩ := w_many O (Pcs.none F)
  obtain ⟨ρ2, c2, O2, W2, hc2⟩ := w_nil O1 W1 4
  have := hq h' μ' ρ2 c2 c1 Option.none 0 [] [] O2 W2 hc2 hc1 (by rw [e]; rfl)
  rw [e] at this
  exact this
end Go.Proofs.YtamoepfiodgbbaaGreatDoor
end

section
/- Lines of words built piece by piece. -/
namespace Go.Proofs.YtamoepfiodgbbaaGreatDoor
open Go.Abs Go.Abs.Fo
set_option maxRecDepth 100000
attribute [local irreducible] unitAt EvQ
variable {h : AW} {μ : Paint} {ρ : Store} {Q : Value → AW → Prop}
/-- Lines whose words lie among many. -/
def Built (vs : List (Option Addr × Nat × Nat × List Value)) (ps : List Wds) : Prop := ∀ p, p ∈ ps → Vm vs p.a (strs p.x) ∧ p.x.length ≤ p.cap
theorem Built.lns {vs : List (Option Addr × Nat × Nat × List Value)} {ps : List Wds} (B : Built vs ps) (O : Own h μ ρ) {co cm : Nat} {oa : Option Addr} {oc : Nat} (h1 : ρ co = some (.sl oa oc 1 (ps.map Wds.cell))) (h2 : ρ cm = some (.many vs)) : Lns ρ ps oa :=
  ⟨.inr (Rd.of_sl O (by simp) h1), fun p hp => (B p hp).1.read O h2, fun p hp => (B p hp).2⟩
theorem Built.nil {vs : List (Option Addr × Nat × Nat × List Value)} : Built vs [] := fun p hp => by simp at hp
theorem Built.more {vs ws : List (Option Addr × Nat × Nat × List Value)} {ps : List Wds} (B : Built vs ps) (hs : ∀ x, x ∈ vs → x ∈ ws) : Built ws ps := fun p hp => ⟨(B p hp).1.more hs, (B p hp).2⟩
theorem Built.app {vs : List (Option Addr × Nat × Nat × List Value)} {ps qs : List Wds} (B : Built vs ps) (C : Built vs qs) : Built vs (ps ++ qs) := fun p hp => by
  rcases List.mem_append.1 hp with x | x
  · exact B p x
  · exact C p x
theorem Built.snoc {vs : List (Option Addr × Nat × Nat × List Value)} {ps : List Wds} (B : Built vs ps) {p : Wds} (hc : p.x.length ≤ p.cap) : Built ((p.a, p.cap, 1, strs p.x) :: vs) (ps ++ [p]) :=
  (B.more fun x hx => List.mem_cons_of_mem _ hx).app fun q hq => by
    simp at hq; subst hq
    exact ⟨.inr ⟨_, _, List.mem_cons_self⟩, hc⟩
theorem allOne_cells (ps : List Wds) : allOne (ps.map Wds.cell) = true := allOne_of fun v hv => by
  obtain ⟨p, _, rfl⟩ := List.mem_map.1 hv
  rfl
/-- A line joins the others. -/
theorem app_line (O : Own h μ ρ) {ρ1 : Store} {ns : List Nat} {rs : List Res} (W : Pcs ρ1 ρ ns rs) (i j : Nat) (hij : j ≠ i) {oa : Option Addr} {oc : Nat} {ps : List Wds} {vs : List (Option Addr × Nat × Nat × List Value)} (hi : rs[i]? = some (.sl oa oc 1 (ps.map Wds.cell))) (hj : rs[j]? = some (.many vs))
    (x : List Str) (hps : ps.length ≤ 1000000) {K : Value → AW → Prop}
    (H : ∀ h' μ' ρ' oa' oc' (p : Wds), p.x = x → p.cap = x.length → Own h' μ' ρ' → Pcs ρ1 ρ' ns ((rs.set j (.many ((p.a, p.cap, 1, strs p.x) :: vs))).set i (.sl oa' oc' 1 ((ps ++ [p]).map Wds.cell))) → K (.slice oa' (ps.length + 1) oc') h') :
    oP (appendB P (AW.addVar (AW.addVar h (strs x)) [.slice (some ⟨AW.next h, 0, none⟩) x.length x.length]) ⟨[ty_sl_sl_string, ty_sl_sl_string]⟩ [.slice oa ps.length oc, .slice (some ⟨AW.next (AW.addVar h (strs x)), 0, none⟩) 1 1]) K := by
  obtain ⟨μ1, ρ2, c1, O1, W1, hc1⟩ := w_block O W (strs x) (n := x.length) (sz := 1) (by simp) allOne_strs
  obtain ⟨μ2, ρ3, O2, W2⟩ := w_into O1 W1 hc1 j hj
  obtain ⟨μ3, ρ4, c2, O3, W3, hc2⟩ := w_block O2 W2 [.slice (some ⟨AW.next h, 0, none⟩) x.length x.length] (n := 1) (sz := 1) rfl rfl
  refine w_app (P := P) O3 W3 (i + 1) (n := ps.length) (m := 1) ti_ty_sl_sl_string ti_ty_sl_string (by decide) (by rw [List.getElem?_cons_succ, List.getElem?_set_ne hij]; exact hi) (by simp) (w_sl O3 W3 0 rfl) rfl rfl (by omega) (by omega) fun oa' oc' h2 μ4 ρ5 O4 W4 => ?_
  refine H _ _ _ oa' oc' ⟨some ⟨AW.next h, 0, none⟩, x.length, x⟩ rfl rfl O4 ?_
  have := W4.tail hc2
  rw [List.map_append]
  exact this
end Go.Proofs.YtamoepfiodgbbaaGreatDoor
end

section
/- Rules of walks, printed by a program of ours: group AStr. -/
namespace Go.Proofs.YtamoepfiodgbbaaGreatDoor
open Go.Abs
set_option maxRecDepth 100000
attribute [local irreducible] kFn kUnit EvQ unitAt
theorem r_strconv_Itoa {n1 : Int} {h : AW} {Q : Value → AW → Prop} (H : EvQ P f_strconv_Itoa_168 [Value.int IntKind.i64 n1] h fun v2 h3 => vStr v2 fun s4 => Q (Value.string s4) h3) : EvQ P f_strconv_Itoa
  [Value.int IntKind.i64 n1] h Q := fn_ok (n := 400) (ann := annOf []) (Eq.mp (by kernel_rfl) H)
theorem r_p_strings_Builder_WriteByte {p1 : Option Addr} {n2 : Int} {h : AW} {Q : Value → AW → Prop} (H : EvQ P f_p_strings_Builder_copyCheck [Value.pointer p1] h fun v3 h4 => aP p1 fun m5 m6 => oB (AW.rd h4 m5 (m6 + 1)) fun v7
  => vSl v7 fun p8 m9 m10 => oP (appendB P (AW.addVar h4 [Value.int IntKind.u8 n2]) (Array.mk [ty_sl_uint8, ty_sl_uint8]) [Value.slice p8 m9 m10, Value.slice (some (Addr.mk (AW.next h4) 0
  none)) 1 1]) fun v11 h12 => vSl v11 fun p13 m14 m15 => aP p1 fun m16 m17 => oB (AW.wr h12 m16 (m17 + 1) (Value.slice p13 m14 m15)) fun h18 => Q Value.nilIface h18) : EvQ P f_p_strings_Builder_WriteByte
  [Value.pointer p1, Value.int IntKind.u8 n2] h Q := fn_ok (n := 400) (ann := annOf []) (Eq.mp (by kernel_rfl) H)
theorem r_p_strings_Builder_WriteString {p1 : Option Addr} {s2 : ByteArray} {h : AW} {Q : Value → AW → Prop} (H : EvQ P f_p_strings_Builder_copyCheck [Value.pointer p1] h fun v3 h4 => aP p1 fun m5 m6 => oB (AW.rd h4 m5 (m6 + 1))
  fun v7 => vSl v7 fun p8 m9 m10 => oP (appendB P h4 (Array.mk [ty_sl_uint8, ty_string]) [Value.slice p8 m9 m10, Value.string s2]) fun v11 h12 => vSl v11 fun p13 m14 m15 => aP p1 fun m16 m17
  => oB (AW.wr h12 m16 (m17 + 1) (Value.slice p13 m14 m15)) fun h18 => Q (Value.tuple (Array.mk [Value.int IntKind.i64 (↑(ByteArray.size s2) : Int), Value.nilIface])) h18) : EvQ P
  f_p_strings_Builder_WriteString [Value.pointer p1, Value.string s2] h Q := fn_ok (n := 400) (ann := annOf []) (Eq.mp (by kernel_rfl) H)
theorem r_p_strings_Builder_String {p1 : Option Addr} {h : AW} {Q : Value → AW → Prop} (H : aP p1 fun m2 m3 => oB (AW.rd h m2 (m3 + 1)) fun v4 => vSl v4 fun p5 m6 m7 => oB (sdataB [Value.slice p5 m6
  m7]) fun v8 => vPtr v8 fun p9 => aP p1 fun m10 m11 => oB (AW.rd h m10 (m11 + 1)) fun v12 => vSl v12 fun p13 m14 m15 => oP (ustrB P h (Array.mk [ty_p_uint8, ty_int]) [Value.pointer p9,
  Value.int IntKind.i64 (↑m14 : Int)]) fun v16 h17 => vStr v16 fun s18 => Q (Value.string s18) h17) : EvQ P f_p_strings_Builder_String [Value.pointer p1] h Q := fn_ok (n := 400) (ann := annOf []) (Eq.mp
  (by kernel_rfl) H)
theorem r_strconv_Itoa_168 {n1 : Int} {h : AW} {Q : Value → AW → Prop} (H : EvQ P f_strconv_FormatInt [Value.int IntKind.i64 n1, Value.int IntKind.i64 10] h fun v2 h3 => vStr v2 fun s4 => Q (Value.string
  s4) h3) : EvQ P f_strconv_Itoa_168 [Value.int IntKind.i64 n1] h Q := fn_ok (n := 400) (ann := annOf []) (Eq.mp (by kernel_rfl) H)
theorem r_strconv_FormatInt {n1 : Int} {n2 : Int} {h : AW} {Q : Value → AW → Prop} (H : bC (n2 == 10) (bC (decide (0 ≤ n1)) (bC (decide (n1 < 100)) (EvQ P f_strconv_small [Value.int IntKind.i64 n1] h
  fun v3 h4 => vStr v3 fun s5 => Q (Value.string s5) h4) (bC (decide (n1 < 0)) (unitAt P f_strconv_FormatInt 8 [0, 5, 6] [Value.int IntKind.i64 n1, Value.pointer (some (Addr.mk (AW.next h) 0
  none)), Value.int IntKind.u64 (IntKind.wrap IntKind.u64 (0 - IntKind.wrap IntKind.u64 n1))] (AW.addVar h [Value.int IntKind.u8 0, Value.int IntKind.u8 0, Value.int IntKind.u8 0,
  Value.int IntKind.u8 0, Value.int IntKind.u8 0, Value.int IntKind.u8 0, Value.int IntKind.u8 0, Value.int IntKind.u8 0, Value.int IntKind.u8 0, Value.int IntKind.u8 0, Value.int
  IntKind.u8 0, Value.int IntKind.u8 0, Value.int IntKind.u8 0, Value.int IntKind.u8 0, Value.int IntKind.u8 0, Value.int IntKind.u8 0, Value.int IntKind.u8 0, Value.int IntKind.u8
  0, Value.int IntKind.u8 0, Value.int IntKind.u8 0, Value.int IntKind.u8 0, Value.int IntKind.u8 0, Value.int IntKind.u8 0, Value.int IntKind.u8 0]) Q) (unitAt P f_strconv_FormatInt 8 [0, 5, 6]
  [Value.int IntKind.i64 n1, Value.pointer (some (Addr.mk (AW.next h) 0 none)), Value.int IntKind.u64 (IntKind.wrap IntKind.u64 n1)] (AW.addVar h [Value.int IntKind.u8 0, Value.int
  IntKind.u8 0, Value.int IntKind.u8 0, Value.int IntKind.u8 0, Value.int IntKind.u8 0, Value.int IntKind.u8 0, Value.int IntKind.u8 0, Value.int IntKind.u8 0, Value.int IntKind.u8
  0, Value.int IntKind.u8 0, Value.int IntKind.u8 0, Value.int IntKind.u8 0, Value.int IntKind.u8 0, Value.int IntKind.u8 0, Value.int IntKind.u8 0, Value.int IntKind.u8 0,
  Value.int IntKind.u8 0, Value.int IntKind.u8 0, Value.int IntKind.u8 0, Value.int IntKind.u8 0, Value.int IntKind.u8 0, Value.int IntKind.u8 0, Value.int IntKind.u8 0, Value.int
  IntKind.u8 0]) Q))) (bC (decide (n1 < 0)) (unitAt P f_strconv_FormatInt 8 [0, 5, 6] [Value.int IntKind.i64 n1, Value.pointer (some (Addr.mk (AW.next h) 0 none)), Value.int IntKind.u64
  (IntKind.wrap IntKind.u64 (0 - IntKind.wrap IntKind.u64 n1))] (AW.addVar h [Value.int IntKind.u8 0, Value.int IntKind.u8 0, Value.int IntKind.u8 0, Value.int IntKind.u8 0,
  Value.int IntKind.u8 0, Value.int IntKind.u8 0, Value.int IntKind.u8 0, Value.int IntKind.u8 0, Value.int IntKind.u8 0, Value.int IntKind.u8 0, Value.int IntKind.u8 0, Value.int
  IntKind.u8 0, Value.int IntKind.u8 0, Value.int IntKind.u8 0, Value.int IntKind.u8 0, Value.int IntKind.u8 0, Value.int IntKind.u8 0, Value.int IntKind.u8 0, Value.int IntKind.u8
  0, Value.int IntKind.u8 0, Value.int IntKind.u8 0, Value.int IntKind.u8 0, Value.int IntKind.u8 0, Value.int IntKind.u8 0]) Q) (unitAt P f_strconv_FormatInt 8 [0, 5, 6] [Value.int IntKind.i64
  n1, Value.pointer (some (Addr.mk (AW.next h) 0 none)), Value.int IntKind.u64 (IntKind.wrap IntKind.u64 n1)] (AW.addVar h [Value.int IntKind.u8 0, Value.int IntKind.u8 0,
  Value.int IntKind.u8 0, Value.int IntKind.u8 0, Value.int IntKind.u8 0, Value.int IntKind.u8 0, Value.int IntKind.u8 0, Value.int IntKind.u8 0, Value.int IntKind.u8 0, Value.int
  IntKind.u8 0, Value.int IntKind.u8 0, Value.int IntKind.u8 0, Value.int IntKind.u8 0, Value.int IntKind.u8 0, Value.int IntKind.u8 0, Value.int IntKind.u8 0, Value.int IntKind.u8
  0, Value.int IntKind.u8 0, Value.int IntKind.u8 0, Value.int IntKind.u8 0, Value.int IntKind.u8 0, Value.int IntKind.u8 0, Value.int IntKind.u8 0, Value.int IntKind.u8 0]) Q)))
  (EvQ P f_strconv_formatBits [Value.slice none 0 0, Value.int IntKind.u64 (IntKind.wrap IntKind.u64 n1), Value.int IntKind.i64 n2, Value.bool (decide (n1 < 0)), Value.bool false] h fun v6 h7 =>
  vTup v6 fun l8 => lC l8 fun v9 l10 => vSl v9 fun p11 m12 m13 => lC l10 fun v14 l15 => vStr v14 fun s16 => lN l15 (Q (Value.string s16) h7))) : EvQ P f_strconv_FormatInt [Value.int IntKind.i64
  n1, Value.int IntKind.i64 n2] h Q := fn_ok (n := 400) (ann := annOf [(8, [0, 5, 6])]) (Eq.mp (by kernel_rfl) H)
theorem r_strconv_FormatInt_8 {n1 : Int} {m2 : Nat} {n3 : Int} {h : AW} {Q : Value → AW → Prop} (H : EvQ P f_strconv_numDigits [Value.int IntKind.u64 n3] h fun v4 h5 => vInt IntKind.i64 v4 fun n6 => oB
  (sliceQ P h5 ty_24_uint8 (Value.pointer (some (Addr.mk m2 0 none))) (some (Value.int IntKind.i64 1)) (some (Value.int IntKind.i64 (IntKind.wrap IntKind.i64 (1 + n6))))) fun v7 => vSl
  v7 fun p8 m9 m10 => EvQ P f_strconv_formatBase10 [Value.slice p8 m9 m10, Value.int IntKind.u64 n3] h5 fun v11 h12 => bC (decide (n1 < 0)) (oB (natIdx 0 24) fun m13 => oB (AW.wr h12 m2 (0 + m13 *
  1) (Value.int IntKind.u8 45)) fun h14 => oB (sliceQ P h14 ty_24_uint8 (Value.pointer (some (Addr.mk m2 0 none))) none (some (Value.int IntKind.i64 (IntKind.wrap IntKind.i64 (1 +
  n6))))) fun v15 => vSl v15 fun p16 m17 m18 => oB (AW.bytes h14 p16 m17) fun s19 => Q (Value.string s19) h14) (oB (sliceQ P h12 ty_24_uint8 (Value.pointer (some (Addr.mk m2 0 none)))
  (some (Value.int IntKind.i64 1)) (some (Value.int IntKind.i64 (IntKind.wrap IntKind.i64 (1 + n6))))) fun v20 => vSl v20 fun p21 m22 m23 => oB (AW.bytes h12 p21 m22) fun s24 => Q
  (Value.string s24) h12)) : unitAt P f_strconv_FormatInt 8 [0, 5, 6] [Value.int IntKind.i64 n1, Value.pointer (some (Addr.mk m2 0 none)), Value.int IntKind.u64 n3] h Q := unit_ok (n := 400)
  (ann := annOf [(8, [0, 5, 6])]) (Eq.mp (by kernel_rfl) H)
theorem r_strconv_small {n1 : Int} {h : AW} {Q : Value → AW → Prop} (H : bC (decide (n1 < 10)) (oB (natBnd (IntKind.wrap IntKind.i64 (n1 + 1)) 36) fun m2 => oB (natBnd n1 m2) fun m3 => Q
  (Value.string (bSub (ByteArray.mk #[48, 49, 50, 51, 52, 53, 54, 55, 56, 57, 97, 98, 99, 100, 101, 102, 103, 104, 105, 106, 107, 108, 109, 110, 111, 112, 113, 114, 115, 116, 117,
  118, 119, 120, 121, 122]) m3 m2)) h) (oB (natBnd (IntKind.wrap IntKind.i64 (IntKind.wrap IntKind.i64 (n1 * 2) + 2)) 200) fun m4 => oB (natBnd (IntKind.wrap IntKind.i64 (n1 * 2))
  m4) fun m5 => Q (Value.string (bSub (ByteArray.mk (List.toArray (List.append (List.append [48, 48, 48, 49, 48, 50, 48, 51, 48, 52, 48, 53, 48, 54, 48, 55, 48, 56, 48, 57, 49, 48,
  49, 49, 49, 50, 49, 51, 49, 52, 49, 53, 49, 54, 49, 55, 49, 56, 49, 57, 50, 48, 50, 49, 50, 50, 50, 51, 50, 52] [50, 53, 50, 54, 50, 55, 50, 56, 50, 57, 51, 48, 51, 49, 51, 50,
  51, 51, 51, 52, 51, 53, 51, 54, 51, 55, 51, 56, 51, 57, 52, 48, 52, 49, 52, 50, 52, 51, 52, 52, 52, 53, 52, 54, 52, 55, 52, 56, 52, 57]) (List.append [53, 48, 53, 49, 53, 50, 53,
  51, 53, 52, 53, 53, 53, 54, 53, 55, 53, 56, 53, 57, 54, 48, 54, 49, 54, 50, 54, 51, 54, 52, 54, 53, 54, 54, 54, 55, 54, 56, 54, 57, 55, 48, 55, 49, 55, 50, 55, 51, 55, 52] [55,
  53, 55, 54, 55, 55, 55, 56, 55, 57, 56, 48, 56, 49, 56, 50, 56, 51, 56, 52, 56, 53, 56, 54, 56, 55, 56, 56, 56, 57, 57, 48, 57, 49, 57, 50, 57, 51, 57, 52, 57, 53, 57, 54, 57,
  55, 57, 56, 57, 57])))) m5 m4)) h)) : EvQ P f_strconv_small [Value.int IntKind.i64 n1] h Q := fn_ok (n := 400) (ann := annOf []) (Eq.mp (by kernel_rfl) H)
theorem r_strconv_numDigits {n1 : Int} {h : AW} {Q : Value → AW → Prop} (H : EvQ P f_math_bits_Len64 [Value.int IntKind.u64 n1] h fun v2 h3 => vInt IntKind.i64 v2 fun n4 => EvQ P f_strconv_log10Pow2 [Value.int
  IntKind.i64 n4] h3 fun v5 h6 => vInt IntKind.i64 v5 fun n7 => oB (natIdx n7 20) fun m8 => oB (AW.rd h6 5 (0 + m8 * 1)) fun v9 => vInt IntKind.u64 v9 fun n10 => EvQ P f_strconv_bool2_int
  [Value.bool (decide (n1 ≥ n10))] h6 fun v11 h12 => vInt IntKind.i64 v11 fun n13 => Q (Value.int IntKind.i64 (IntKind.wrap IntKind.i64 (n7 + n13))) h12) : EvQ P f_strconv_numDigits [Value.int
  IntKind.u64 n1] h Q := fn_ok (n := 400) (ann := annOf []) (Eq.mp (by kernel_rfl) H)
theorem r_strconv_formatBase10 {p1 : Option Addr} {m2 : Nat} {m3 : Nat} {n4 : Int} {h : AW} {Q : Value → AW → Prop} (H : unitAt P f_strconv_formatBase10 1 [0, 1, 4] [Value.slice p1 m2 m3, Value.int IntKind.u64
  n4, Value.int IntKind.i64 (↑m2 : Int)] h Q) : EvQ P f_strconv_formatBase10 [Value.slice p1 m2 m3, Value.int IntKind.u64 n4] h Q := fn_ok (n := 400) (ann := annOf [(1, [0, 1, 4]), (20, [0, 4,
  12]), (25, [0, 4, 12])]) (Eq.mp (by kernel_rfl) H)
theorem r_strconv_formatBase10_1 {p1 : Option Addr} {m2 : Nat} {m3 : Nat} {n4 : Int} {n5 : Int} {h : AW} {Q : Value → AW → Prop} (H : bC (decide (n5 ≥ 8)) (oB (natIdx (IntKind.wrap IntKind.u32
  (IntKind.wrap IntKind.u32 (Int.tmod (Int.tmod (IntKind.wrap IntKind.u32 (Int.tmod n4 100000000)) 10000) 100 * 2) + 1)) 200) fun m6 => oB (bAt (ByteArray.mk (List.toArray
  (List.append (List.append [48, 48, 48, 49, 48, 50, 48, 51, 48, 52, 48, 53, 48, 54, 48, 55, 48, 56, 48, 57, 49, 48, 49, 49, 49, 50, 49, 51, 49, 52, 49, 53, 49, 54, 49, 55, 49, 56,
  49, 57, 50, 48, 50, 49, 50, 50, 50, 51, 50, 52] [50, 53, 50, 54, 50, 55, 50, 56, 50, 57, 51, 48, 51, 49, 51, 50, 51, 51, 51, 52, 51, 53, 51, 54, 51, 55, 51, 56, 51, 57, 52, 48,
  52, 49, 52, 50, 52, 51, 52, 52, 52, 53, 52, 54, 52, 55, 52, 56, 52, 57]) (List.append [53, 48, 53, 49, 53, 50, 53, 51, 53, 52, 53, 53, 53, 54, 53, 55, 53, 56, 53, 57, 54, 48, 54,
  49, 54, 50, 54, 51, 54, 52, 54, 53, 54, 54, 54, 55, 54, 56, 54, 57, 55, 48, 55, 49, 55, 50, 55, 51, 55, 52] [55, 53, 55, 54, 55, 55, 55, 56, 55, 57, 56, 48, 56, 49, 56, 50, 56,
  51, 56, 52, 56, 53, 56, 54, 56, 55, 56, 56, 56, 57, 57, 48, 57, 49, 57, 50, 57, 51, 57, 52, 57, 53, 57, 54, 57, 55, 57, 56, 57, 57])))) m6) fun n7 => oB (natIdx (IntKind.wrap
  IntKind.u32 (Int.tmod (Int.tmod (IntKind.wrap IntKind.u32 (Int.tmod n4 100000000)) 10000) 100 * 2)) 200) fun m8 => oB (bAt (ByteArray.mk (List.toArray (List.append (List.append
  [48, 48, 48, 49, 48, 50, 48, 51, 48, 52, 48, 53, 48, 54, 48, 55, 48, 56, 48, 57, 49, 48, 49, 49, 49, 50, 49, 51, 49, 52, 49, 53, 49, 54, 49, 55, 49, 56, 49, 57, 50, 48, 50, 49,
  50, 50, 50, 51, 50, 52] [50, 53, 50, 54, 50, 55, 50, 56, 50, 57, 51, 48, 51, 49, 51, 50, 51, 51, 51, 52, 51, 53, 51, 54, 51, 55, 51, 56, 51, 57, 52, 48, 52, 49, 52, 50, 52, 51,
  52, 52, 52, 53, 52, 54, 52, 55, 52, 56, 52, 57]) (List.append [53, 48, 53, 49, 53, 50, 53, 51, 53, 52, 53, 53, 53, 54, 53, 55, 53, 56, 53, 57, 54, 48, 54, 49, 54, 50, 54, 51, 54,
  52, 54, 53, 54, 54, 54, 55, 54, 56, 54, 57, 55, 48, 55, 49, 55, 50, 55, 51, 55, 52] [55, 53, 55, 54, 55, 55, 55, 56, 55, 57, 56, 48, 56, 49, 56, 50, 56, 51, 56, 52, 56, 53, 56,
  54, 56, 55, 56, 56, 56, 57, 57, 48, 57, 49, 57, 50, 57, 51, 57, 52, 57, 53, 57, 54, 57, 55, 57, 56, 57, 57])))) m8) fun n9 => aP p1 fun m10 m11 => oB (natIdx (IntKind.wrap
  IntKind.i64 (n5 - 1)) m2) fun m12 => oB (AW.wr h m10 (m11 + m12 * 1) (Value.int IntKind.u8 n7)) fun h13 => aP p1 fun m14 m15 => oB (natIdx (IntKind.wrap IntKind.i64 (n5 - 2)) m2)
  fun m16 => oB (AW.wr h13 m14 (m15 + m16 * 1) (Value.int IntKind.u8 n9)) fun h17 => oB (natIdx (IntKind.wrap IntKind.u32 (IntKind.wrap IntKind.u32 (IntKind.wrap IntKind.u32
  (Int.tdiv (Int.tmod (IntKind.wrap IntKind.u32 (Int.tmod n4 100000000)) 10000) 100) * 2) + 1)) 200) fun m18 => oB (bAt (ByteArray.mk (List.toArray (List.append (List.append [48,
  48, 48, 49, 48, 50, 48, 51, 48, 52, 48, 53, 48, 54, 48, 55, 48, 56, 48, 57, 49, 48, 49, 49, 49, 50, 49, 51, 49, 52, 49, 53, 49, 54, 49, 55, 49, 56, 49, 57, 50, 48, 50, 49, 50,
  50, 50, 51, 50, 52] [50, 53, 50, 54, 50, 55, 50, 56, 50, 57, 51, 48, 51, 49, 51, 50, 51, 51, 51, 52, 51, 53, 51, 54, 51, 55, 51, 56, 51, 57, 52, 48, 52, 49, 52, 50, 52, 51, 52,
  52, 52, 53, 52, 54, 52, 55, 52, 56, 52, 57]) (List.append [53, 48, 53, 49, 53, 50, 53, 51, 53, 52, 53, 53, 53, 54, 53, 55, 53, 56, 53, 57, 54, 48, 54, 49, 54, 50, 54, 51, 54, 52,
  54, 53, 54, 54, 54, 55, 54, 56, 54, 57, 55, 48, 55, 49, 55, 50, 55, 51, 55, 52] [55, 53, 55, 54, 55, 55, 55, 56, 55, 57, 56, 48, 56, 49, 56, 50, 56, 51, 56, 52, 56, 53, 56, 54,
  56, 55, 56, 56, 56, 57, 57, 48, 57, 49, 57, 50, 57, 51, 57, 52, 57, 53, 57, 54, 57, 55, 57, 56, 57, 57])))) m18) fun n19 => oB (natIdx (IntKind.wrap IntKind.u32 (IntKind.wrap
  IntKind.u32 (Int.tdiv (Int.tmod (IntKind.wrap IntKind.u32 (Int.tmod n4 100000000)) 10000) 100) * 2)) 200) fun m20 => oB (bAt (ByteArray.mk (List.toArray (List.append (List.append
  [48, 48, 48, 49, 48, 50, 48, 51, 48, 52, 48, 53, 48, 54, 48, 55, 48, 56, 48, 57, 49, 48, 49, 49, 49, 50, 49, 51, 49, 52, 49, 53, 49, 54, 49, 55, 49, 56, 49, 57, 50, 48, 50, 49,
  50, 50, 50, 51, 50, 52] [50, 53, 50, 54, 50, 55, 50, 56, 50, 57, 51, 48, 51, 49, 51, 50, 51, 51, 51, 52, 51, 53, 51, 54, 51, 55, 51, 56, 51, 57, 52, 48, 52, 49, 52, 50, 52, 51,
  52, 52, 52, 53, 52, 54, 52, 55, 52, 56, 52, 57]) (List.append [53, 48, 53, 49, 53, 50, 53, 51, 53, 52, 53, 53, 53, 54, 53, 55, 53, 56, 53, 57, 54, 48, 54, 49, 54, 50, 54, 51, 54,
  52, 54, 53, 54, 54, 54, 55, 54, 56, 54, 57, 55, 48, 55, 49, 55, 50, 55, 51, 55, 52] [55, 53, 55, 54, 55, 55, 55, 56, 55, 57, 56, 48, 56, 49, 56, 50, 56, 51, 56, 52, 56, 53, 56,
  54, 56, 55, 56, 56, 56, 57, 57, 48, 57, 49, 57, 50, 57, 51, 57, 52, 57, 53, 57, 54, 57, 55, 57, 56, 57, 57])))) m20) fun n21 => aP p1 fun m22 m23 => oB (natIdx (IntKind.wrap
  IntKind.i64 (n5 - 3)) m2) fun m24 => oB (AW.wr h17 m22 (m23 + m24 * 1) (Value.int IntKind.u8 n19)) fun h25 => aP p1 fun m26 m27 => oB (natIdx (IntKind.wrap IntKind.i64 (n5 - 4))
  m2) fun m28 => oB (AW.wr h25 m26 (m27 + m28 * 1) (Value.int IntKind.u8 n21)) fun h29 => oB (natIdx (IntKind.wrap IntKind.u32 (IntKind.wrap IntKind.u32 (Int.tmod (IntKind.wrap
  IntKind.u32 (Int.tdiv (IntKind.wrap IntKind.u32 (Int.tmod n4 100000000)) 10000)) 100 * 2) + 1)) 200) fun m30 => oB (bAt (ByteArray.mk (List.toArray (List.append (List.append [48,
  48, 48, 49, 48, 50, 48, 51, 48, 52, 48, 53, 48, 54, 48, 55, 48, 56, 48, 57, 49, 48, 49, 49, 49, 50, 49, 51, 49, 52, 49, 53, 49, 54, 49, 55, 49, 56, 49, 57, 50, 48, 50, 49, 50,
  50, 50, 51, 50, 52] [50, 53, 50, 54, 50, 55, 50, 56, 50, 57, 51, 48, 51, 49, 51, 50, 51, 51, 51, 52, 51, 53, 51, 54, 51, 55, 51, 56, 51, 57, 52, 48, 52, 49, 52, 50, 52, 51, 52,
  52, 52, 53, 52, 54, 52, 55, 52, 56, 52, 57]) (List.append [53, 48, 53, 49, 53, 50, 53, 51, 53, 52, 53, 53, 53, 54, 53, 55, 53, 56, 53, 57, 54, 48, 54, 49, 54, 50, 54, 51, 54, 52,
  54, 53, 54, 54, 54, 55, 54, 56, 54, 57, 55, 48, 55, 49, 55, 50, 55, 51, 55, 52] [55, 53, 55, 54, 55, 55, 55, 56, 55, 57, 56, 48, 56, 49, 56, 50, 56, 51, 56, 52, 56, 53, 56, 54,
  56, 55, 56, 56, 56, 57, 57, 48, 57, 49, 57, 50, 57, 51, 57, 52, 57, 53, 57, 54, 57, 55, 57, 56, 57, 57])))) m30) fun n31 => oB (natIdx (IntKind.wrap IntKind.u32 (Int.tmod
  (IntKind.wrap IntKind.u32 (Int.tdiv (IntKind.wrap IntKind.u32 (Int.tmod n4 100000000)) 10000)) 100 * 2)) 200) fun m32 => oB (bAt (ByteArray.mk (List.toArray (List.append
  (List.append [48, 48, 48, 49, 48, 50, 48, 51, 48, 52, 48, 53, 48, 54, 48, 55, 48, 56, 48, 57, 49, 48, 49, 49, 49, 50, 49, 51, 49, 52, 49, 53, 49, 54, 49, 55, 49, 56, 49, 57, 50,
  48, 50, 49, 50, 50, 50, 51, 50, 52] [50, 53, 50, 54, 50, 55, 50, 56, 50, 57, 51, 48, 51, 49, 51, 50, 51, 51, 51, 52, 51, 53, 51, 54, 51, 55, 51, 56, 51, 57, 52, 48, 52, 49, 52,
  50, 52, 51, 52, 52, 52, 53, 52, 54, 52, 55, 52, 56, 52, 57]) (List.append [53, 48, 53, 49, 53, 50, 53, 51, 53, 52, 53, 53, 53, 54, 53, 55, 53, 56, 53, 57, 54, 48, 54, 49, 54, 50,
  54, 51, 54, 52, 54, 53, 54, 54, 54, 55, 54, 56, 54, 57, 55, 48, 55, 49, 55, 50, 55, 51, 55, 52] [55, 53, 55, 54, 55, 55, 55, 56, 55, 57, 56, 48, 56, 49, 56, 50, 56, 51, 56, 52,
  56, 53, 56, 54, 56, 55, 56, 56, 56, 57, 57, 48, 57, 49, 57, 50, 57, 51, 57, 52, 57, 53, 57, 54, 57, 55, 57, 56, 57, 57])))) m32) fun n33 => aP p1 fun m34 m35 => oB (natIdx
  (IntKind.wrap IntKind.i64 (n5 - 5)) m2) fun m36 => oB (AW.wr h29 m34 (m35 + m36 * 1) (Value.int IntKind.u8 n31)) fun h37 => aP p1 fun m38 m39 => oB (natIdx (IntKind.wrap
  IntKind.i64 (n5 - 6)) m2) fun m40 => oB (AW.wr h37 m38 (m39 + m40 * 1) (Value.int IntKind.u8 n33)) fun h41 => oB (natIdx (IntKind.wrap IntKind.u32 (IntKind.wrap IntKind.u32
  (IntKind.wrap IntKind.u32 (Int.tdiv (IntKind.wrap IntKind.u32 (Int.tdiv (IntKind.wrap IntKind.u32 (Int.tmod n4 100000000)) 10000)) 100) * 2) + 1)) 200) fun m42 => oB (bAt
  (ByteArray.mk (List.toArray (List.append (List.append [48, 48, 48, 49, 48, 50, 48, 51, 48, 52, 48, 53, 48, 54, 48, 55, 48, 56, 48, 57, 49, 48, 49, 49, 49, 50, 49, 51, 49, 52, 49,
  53, 49, 54, 49, 55, 49, 56, 49, 57, 50, 48, 50, 49, 50, 50, 50, 51, 50, 52] [50, 53, 50, 54, 50, 55, 50, 56, 50, 57, 51, 48, 51, 49, 51, 50, 51, 51, 51, 52, 51, 53, 51, 54, 51,
  55, 51, 56, 51, 57, 52, 48, 52, 49, 52, 50, 52, 51, 52, 52, 52, 53, 52, 54, 52, 55, 52, 56, 52, 57]) (List.append [53, 48, 53, 49, 53, 50, 53, 51, 53, 52, 53, 53, 53, 54, 53, 55,
  53, 56, 53, 57, 54, 48, 54, 49, 54, 50, 54, 51, 54, 52, 54, 53, 54, 54, 54, 55, 54, 56, 54, 57, 55, 48, 55, 49, 55, 50, 55, 51, 55, 52] [55, 53, 55, 54, 55, 55, 55, 56, 55, 57,
  56, 48, 56, 49, 56, 50, 56, 51, 56, 52, 56, 53, 56, 54, 56, 55, 56, 56, 56, 57, 57, 48, 57, 49, 57, 50, 57, 51, 57, 52, 57, 53, 57, 54, 57, 55, 57, 56, 57, 57])))) m42) fun n43
  => oB (natIdx (IntKind.wrap IntKind.u32 (IntKind.wrap IntKind.u32 (Int.tdiv (IntKind.wrap IntKind.u32 (Int.tdiv (IntKind.wrap IntKind.u32 (Int.tmod n4 100000000)) 10000)) 100) *
  2)) 200) fun m44 => oB (bAt (ByteArray.mk (List.toArray (List.append (List.append [48, 48, 48, 49, 48, 50, 48, 51, 48, 52, 48, 53, 48, 54, 48, 55, 48, 56, 48, 57, 49, 48, 49, 49,
  49, 50, 49, 51, 49, 52, 49, 53, 49, 54, 49, 55, 49, 56, 49, 57, 50, 48, 50, 49, 50, 50, 50, 51, 50, 52] [50, 53, 50, 54, 50, 55, 50, 56, 50, 57, 51, 48, 51, 49, 51, 50, 51, 51,
  51, 52, 51, 53, 51, 54, 51, 55, 51, 56, 51, 57, 52, 48, 52, 49, 52, 50, 52, 51, 52, 52, 52, 53, 52, 54, 52, 55, 52, 56, 52, 57]) (List.append [53, 48, 53, 49, 53, 50, 53, 51, 53,
  52, 53, 53, 53, 54, 53, 55, 53, 56, 53, 57, 54, 48, 54, 49, 54, 50, 54, 51, 54, 52, 54, 53, 54, 54, 54, 55, 54, 56, 54, 57, 55, 48, 55, 49, 55, 50, 55, 51, 55, 52] [55, 53, 55,
  54, 55, 55, 55, 56, 55, 57, 56, 48, 56, 49, 56, 50, 56, 51, 56, 52, 56, 53, 56, 54, 56, 55, 56, 56, 56, 57, 57, 48, 57, 49, 57, 50, 57, 51, 57, 52, 57, 53, 57, 54, 57, 55, 57,
  56, 57, 57])))) m44) fun n45 => aP p1 fun m46 m47 => oB (natIdx (IntKind.wrap IntKind.i64 (n5 - 7)) m2) fun m48 => oB (AW.wr h41 m46 (m47 + m48 * 1) (Value.int IntKind.u8 n43))
  fun h49 => aP p1 fun m50 m51 => oB (natIdx (IntKind.wrap IntKind.i64 (n5 - 8)) m2) fun m52 => oB (AW.wr h49 m50 (m51 + m52 * 1) (Value.int IntKind.u8 n45)) fun h53 => unitAt P
  f_strconv_formatBase10 1 [0, 1, 4] [Value.slice p1 m2 m3, Value.int IntKind.u64 (IntKind.wrap IntKind.u64 (Int.tdiv n4 100000000)), Value.int IntKind.i64 (IntKind.wrap IntKind.i64 (n5 - 8))] h53
  Q) (bC (decide (n5 ≥ 4)) (oB (natIdx (IntKind.wrap IntKind.u32 (IntKind.wrap IntKind.u32 (Int.tmod (Int.tmod (IntKind.wrap IntKind.u32 n4) 10000) 100 * 2) + 1)) 200) fun m54 =>
  oB (bAt (ByteArray.mk (List.toArray (List.append (List.append [48, 48, 48, 49, 48, 50, 48, 51, 48, 52, 48, 53, 48, 54, 48, 55, 48, 56, 48, 57, 49, 48, 49, 49, 49, 50, 49, 51, 49,
  52, 49, 53, 49, 54, 49, 55, 49, 56, 49, 57, 50, 48, 50, 49, 50, 50, 50, 51, 50, 52] [50, 53, 50, 54, 50, 55, 50, 56, 50, 57, 51, 48, 51, 49, 51, 50, 51, 51, 51, 52, 51, 53, 51,
  54, 51, 55, 51, 56, 51, 57, 52, 48, 52, 49, 52, 50, 52, 51, 52, 52, 52, 53, 52, 54, 52, 55, 52, 56, 52, 57]) (List.append [53, 48, 53, 49, 53, 50, 53, 51, 53, 52, 53, 53, 53, 54,
  53, 55, 53, 56, 53, 57, 54, 48, 54, 49, 54, 50, 54, 51, 54, 52, 54, 53, 54, 54, 54, 55, 54, 56, 54, 57, 55, 48, 55, 49, 55, 50, 55, 51, 55, 52] [55, 53, 55, 54, 55, 55, 55, 56,
  55, 57, 56, 48, 56, 49, 56, 50, 56, 51, 56, 52, 56, 53, 56, 54, 56, 55, 56, 56, 56, 57, 57, 48, 57, 49, 57, 50, 57, 51, 57, 52, 57, 53, 57, 54, 57, 55, 57, 56, 57, 57])))) m54)
  fun n55 => oB (natIdx (IntKind.wrap IntKind.u32 (Int.tmod (Int.tmod (IntKind.wrap IntKind.u32 n4) 10000) 100 * 2)) 200) fun m56 => oB (bAt (ByteArray.mk (List.toArray
  (List.append (List.append [48, 48, 48, 49, 48, 50, 48, 51, 48, 52, 48, 53, 48, 54, 48, 55, 48, 56, 48, 57, 49, 48, 49, 49, 49, 50, 49, 51, 49, 52, 49, 53, 49, 54, 49, 55, 49, 56,
  49, 57, 50, 48, 50, 49, 50, 50, 50, 51, 50, 52] [50, 53, 50, 54, 50, 55, 50, 56, 50, 57, 51, 48, 51, 49, 51, 50, 51, 51, 51, 52, 51, 53, 51, 54, 51, 55, 51, 56, 51, 57, 52, 48,
  52, 49, 52, 50, 52, 51, 52, 52, 52, 53, 52, 54, 52, 55, 52, 56, 52, 57]) (List.append [53, 48, 53, 49, 53, 50, 53, 51, 53, 52, 53, 53, 53, 54, 53, 55, 53, 56, 53, 57, 54, 48, 54,
  49, 54, 50, 54, 51, 54, 52, 54, 53, 54, 54, 54, 55, 54, 56, 54, 57, 55, 48, 55, 49, 55, 50, 55, 51, 55, 52] [55, 53, 55, 54, 55, 55, 55, 56, 55, 57, 56, 48, 56, 49, 56, 50, 56,
  51, 56, 52, 56, 53, 56, 54, 56, 55, 56, 56, 56, 57, 57, 48, 57, 49, 57, 50, 57, 51, 57, 52, 57, 53, 57, 54, 57, 55, 57, 56, 57, 57])))) m56) fun n57 => aP p1 fun m58 m59 => oB
  (natIdx (IntKind.wrap IntKind.i64 (n5 - 1)) m2) fun m60 => oB (AW.wr h m58 (m59 + m60 * 1) (Value.int IntKind.u8 n55)) fun h61 => aP p1 fun m62 m63 => oB (natIdx (IntKind.wrap
  IntKind.i64 (n5 - 2)) m2) fun m64 => oB (AW.wr h61 m62 (m63 + m64 * 1) (Value.int IntKind.u8 n57)) fun h65 => oB (natIdx (IntKind.wrap IntKind.u32 (IntKind.wrap IntKind.u32
  (IntKind.wrap IntKind.u32 (Int.tdiv (Int.tmod (IntKind.wrap IntKind.u32 n4) 10000) 100) * 2) + 1)) 200) fun m66 => oB (bAt (ByteArray.mk (List.toArray (List.append (List.append
  [48, 48, 48, 49, 48, 50, 48, 51, 48, 52, 48, 53, 48, 54, 48, 55, 48, 56, 48, 57, 49, 48, 49, 49, 49, 50, 49, 51, 49, 52, 49, 53, 49, 54, 49, 55, 49, 56, 49, 57, 50, 48, 50, 49,
  50, 50, 50, 51, 50, 52] [50, 53, 50, 54, 50, 55, 50, 56, 50, 57, 51, 48, 51, 49, 51, 50, 51, 51, 51, 52, 51, 53, 51, 54, 51, 55, 51, 56, 51, 57, 52, 48, 52, 49, 52, 50, 52, 51,
  52, 52, 52, 53, 52, 54, 52, 55, 52, 56, 52, 57]) (List.append [53, 48, 53, 49, 53, 50, 53, 51, 53, 52, 53, 53, 53, 54, 53, 55, 53, 56, 53, 57, 54, 48, 54, 49, 54, 50, 54, 51, 54,
  52, 54, 53, 54, 54, 54, 55, 54, 56, 54, 57, 55, 48, 55, 49, 55, 50, 55, 51, 55, 52] [55, 53, 55, 54, 55, 55, 55, 56, 55, 57, 56, 48, 56, 49, 56, 50, 56, 51, 56, 52, 56, 53, 56,
  54, 56, 55, 56, 56, 56, 57, 57, 48, 57, 49, 57, 50, 57, 51, 57, 52, 57, 53, 57, 54, 57, 55, 57, 56, 57, 57])))) m66) fun n67 => oB (natIdx (IntKind.wrap IntKind.u32 (IntKind.wrap
  IntKind.u32 (Int.tdiv (Int.tmod (IntKind.wrap IntKind.u32 n4) 10000) 100) * 2)) 200) fun m68 => oB (bAt (ByteArray.mk (List.toArray (List.append (List.append [48, 48, 48, 49, 48,
  50, 48, 51, 48, 52, 48, 53, 48, 54, 48, 55, 48, 56, 48, 57, 49, 48, 49, 49, 49, 50, 49, 51, 49, 52, 49, 53, 49, 54, 49, 55, 49, 56, 49, 57, 50, 48, 50, 49, 50, 50, 50, 51, 50,
  52] [50, 53, 50, 54, 50, 55, 50, 56, 50, 57, 51, 48, 51, 49, 51, 50, 51, 51, 51, 52, 51, 53, 51, 54, 51, 55, 51, 56, 51, 57, 52, 48, 52, 49, 52, 50, 52, 51, 52, 52, 52, 53, 52,
  54, 52, 55, 52, 56, 52, 57]) (List.append [53, 48, 53, 49, 53, 50, 53, 51, 53, 52, 53, 53, 53, 54, 53, 55, 53, 56, 53, 57, 54, 48, 54, 49, 54, 50, 54, 51, 54, 52, 54, 53, 54, 54,
  54, 55, 54, 56, 54, 57, 55, 48, 55, 49, 55, 50, 55, 51, 55, 52] [55, 53, 55, 54, 55, 55, 55, 56, 55, 57, 56, 48, 56, 49, 56, 50, 56, 51, 56, 52, 56, 53, 56, 54, 56, 55, 56, 56,
  56, 57, 57, 48, 57, 49, 57, 50, 57, 51, 57, 52, 57, 53, 57, 54, 57, 55, 57, 56, 57, 57])))) m68) fun n69 => aP p1 fun m70 m71 => oB (natIdx (IntKind.wrap IntKind.i64 (n5 - 3))
  m2) fun m72 => oB (AW.wr h65 m70 (m71 + m72 * 1) (Value.int IntKind.u8 n67)) fun h73 => aP p1 fun m74 m75 => oB (natIdx (IntKind.wrap IntKind.i64 (n5 - 4)) m2) fun m76 => oB
  (AW.wr h73 m74 (m75 + m76 * 1) (Value.int IntKind.u8 n69)) fun h77 => unitAt P f_strconv_formatBase10 20 [0, 4, 12] [Value.slice p1 m2 m3, Value.int IntKind.i64 (IntKind.wrap IntKind.i64 (n5 -
  4)), Value.int IntKind.u32 (IntKind.wrap IntKind.u32 (Int.tdiv (IntKind.wrap IntKind.u32 n4) 10000))] h77 Q) (unitAt P f_strconv_formatBase10 20 [0, 4, 12] [Value.slice p1 m2 m3, Value.int
  IntKind.i64 n5, Value.int IntKind.u32 (IntKind.wrap IntKind.u32 n4)] h Q))) : unitAt P f_strconv_formatBase10 1 [0, 1, 4] [Value.slice p1 m2 m3, Value.int IntKind.u64 n4, Value.int IntKind.i64
  n5] h Q := unit_ok (n := 400) (ann := annOf [(1, [0, 1, 4]), (20, [0, 4, 12]), (25, [0, 4, 12])]) (Eq.mp (by kernel_rfl) H)
theorem r_strconv_formatBase10_20 {p1 : Option Addr} {m2 : Nat} {m3 : Nat} {n4 : Int} {n5 : Int} {h : AW} {Q : Value → AW → Prop} (H : bC (decide (n4 ≥ 2)) (oB (natIdx (IntKind.wrap IntKind.u32
  (IntKind.wrap IntKind.u32 (Int.tmod n5 100 * 2) + 1)) 200) fun m6 => oB (bAt (ByteArray.mk (List.toArray (List.append (List.append [48, 48, 48, 49, 48, 50, 48, 51, 48, 52, 48,
  53, 48, 54, 48, 55, 48, 56, 48, 57, 49, 48, 49, 49, 49, 50, 49, 51, 49, 52, 49, 53, 49, 54, 49, 55, 49, 56, 49, 57, 50, 48, 50, 49, 50, 50, 50, 51, 50, 52] [50, 53, 50, 54, 50,
  55, 50, 56, 50, 57, 51, 48, 51, 49, 51, 50, 51, 51, 51, 52, 51, 53, 51, 54, 51, 55, 51, 56, 51, 57, 52, 48, 52, 49, 52, 50, 52, 51, 52, 52, 52, 53, 52, 54, 52, 55, 52, 56, 52,
  57]) (List.append [53, 48, 53, 49, 53, 50, 53, 51, 53, 52, 53, 53, 53, 54, 53, 55, 53, 56, 53, 57, 54, 48, 54, 49, 54, 50, 54, 51, 54, 52, 54, 53, 54, 54, 54, 55, 54, 56, 54, 57,
  55, 48, 55, 49, 55, 50, 55, 51, 55, 52] [55, 53, 55, 54, 55, 55, 55, 56, 55, 57, 56, 48, 56, 49, 56, 50, 56, 51, 56, 52, 56, 53, 56, 54, 56, 55, 56, 56, 56, 57, 57, 48, 57, 49,
  57, 50, 57, 51, 57, 52, 57, 53, 57, 54, 57, 55, 57, 56, 57, 57])))) m6) fun n7 => oB (natIdx (IntKind.wrap IntKind.u32 (Int.tmod n5 100 * 2)) 200) fun m8 => oB (bAt (ByteArray.mk
  (List.toArray (List.append (List.append [48, 48, 48, 49, 48, 50, 48, 51, 48, 52, 48, 53, 48, 54, 48, 55, 48, 56, 48, 57, 49, 48, 49, 49, 49, 50, 49, 51, 49, 52, 49, 53, 49, 54,
  49, 55, 49, 56, 49, 57, 50, 48, 50, 49, 50, 50, 50, 51, 50, 52] [50, 53, 50, 54, 50, 55, 50, 56, 50, 57, 51, 48, 51, 49, 51, 50, 51, 51, 51, 52, 51, 53, 51, 54, 51, 55, 51, 56,
  51, 57, 52, 48, 52, 49, 52, 50, 52, 51, 52, 52, 52, 53, 52, 54, 52, 55, 52, 56, 52, 57]) (List.append [53, 48, 53, 49, 53, 50, 53, 51, 53, 52, 53, 53, 53, 54, 53, 55, 53, 56, 53,
  57, 54, 48, 54, 49, 54, 50, 54, 51, 54, 52, 54, 53, 54, 54, 54, 55, 54, 56, 54, 57, 55, 48, 55, 49, 55, 50, 55, 51, 55, 52] [55, 53, 55, 54, 55, 55, 55, 56, 55, 57, 56, 48, 56,
  49, 56, 50, 56, 51, 56, 52, 56, 53, 56, 54, 56, 55, 56, 56, 56, 57, 57, 48, 57, 49, 57, 50, 57, 51, 57, 52, 57, 53, 57, 54, 57, 55, 57, 56, 57, 57])))) m8) fun n9 => aP p1 fun
  m10 m11 => oB (natIdx (IntKind.wrap IntKind.i64 (n4 - 1)) m2) fun m12 => oB (AW.wr h m10 (m11 + m12 * 1) (Value.int IntKind.u8 n7)) fun h13 => aP p1 fun m14 m15 => oB (natIdx
  (IntKind.wrap IntKind.i64 (n4 - 2)) m2) fun m16 => oB (AW.wr h13 m14 (m15 + m16 * 1) (Value.int IntKind.u8 n9)) fun h17 => unitAt P f_strconv_formatBase10 25 [0, 4, 12] [Value.slice p1 m2 m3,
  Value.int IntKind.i64 (IntKind.wrap IntKind.i64 (n4 - 2)), Value.int IntKind.u32 (IntKind.wrap IntKind.u32 (Int.tdiv n5 100))] h17 Q) (unitAt P f_strconv_formatBase10 25 [0, 4, 12] [Value.slice
  p1 m2 m3, Value.int IntKind.i64 n4, Value.int IntKind.u32 n5] h Q)) : unitAt P f_strconv_formatBase10 20 [0, 4, 12] [Value.slice p1 m2 m3, Value.int IntKind.i64 n4, Value.int IntKind.u32 n5] h Q
  := unit_ok (n := 400) (ann := annOf [(1, [0, 1, 4]), (20, [0, 4, 12]), (25, [0, 4, 12])]) (Eq.mp (by kernel_rfl) H)
theorem r_strconv_formatBase10_25 {p1 : Option Addr} {m2 : Nat} {m3 : Nat} {n4 : Int} {n5 : Int} {h : AW} {Q : Value → AW → Prop} (H : bC (decide (n4 > 0)) (aP p1 fun m6 m7 => oB (natIdx 0 m2)
  fun m8 => oB (AW.wr h m6 (m7 + m8 * 1) (Value.int IntKind.u8 (IntKind.wrap IntKind.u8 (IntKind.wrap IntKind.u32 (48 + n5))))) fun h9 => Q (Value.tuple (Array.mk [])) h9) (Q
  (Value.tuple (Array.mk [])) h)) : unitAt P f_strconv_formatBase10 25 [0, 4, 12] [Value.slice p1 m2 m3, Value.int IntKind.i64 n4, Value.int IntKind.u32 n5] h Q := unit_ok (n := 400) (ann := annOf
  [(1, [0, 1, 4]), (20, [0, 4, 12]), (25, [0, 4, 12])]) (Eq.mp (by kernel_rfl) H)
theorem r_strconv_log10Pow2 {n1 : Int} {h : AW} {Q : Value → AW → Prop} (H : Q (Value.int IntKind.i64 (Int.fdiv (IntKind.wrap IntKind.i64 (n1 * 78913)) 262144)) h) : EvQ P f_strconv_log10Pow2 [Value.int
  IntKind.i64 n1] h Q := fn_ok (n := 400) (ann := annOf []) (Eq.mp (by kernel_rfl) H)
theorem r_math_bits_Len64 {n1 : Int} {h : AW} {Q : Value → AW → Prop} (H : bC (decide (n1 ≥ 4294967296)) (unitAt P f_math_bits_Len64 4 [0, 2] [Value.int IntKind.u64 (Int.fdiv n1 4294967296), Value.int
  IntKind.i64 32] h Q) (unitAt P f_math_bits_Len64 4 [0, 2] [Value.int IntKind.u64 n1, Value.int IntKind.i64 0] h Q)) : EvQ P f_math_bits_Len64 [Value.int IntKind.u64 n1] h Q := fn_ok (n := 400) (ann :=
  annOf [(4, [0, 2]), (7, [0, 2])]) (Eq.mp (by kernel_rfl) H)
theorem r_math_bits_Len64_4 {n1 : Int} {n2 : Int} {h : AW} {Q : Value → AW → Prop} (H : bC (decide (n1 ≥ 65536)) (unitAt P f_math_bits_Len64 7 [0, 2] [Value.int IntKind.u64 (Int.fdiv n1 65536),
  Value.int IntKind.i64 (IntKind.wrap IntKind.i64 (n2 + 16))] h Q) (unitAt P f_math_bits_Len64 7 [0, 2] [Value.int IntKind.u64 n1, Value.int IntKind.i64 n2] h Q)) : unitAt P f_math_bits_Len64 4 [0, 2]
  [Value.int IntKind.u64 n1, Value.int IntKind.i64 n2] h Q := unit_ok (n := 400) (ann := annOf [(4, [0, 2]), (7, [0, 2])]) (Eq.mp (by kernel_rfl) H)
theorem r_math_bits_Len64_7 {n1 : Int} {n2 : Int} {h : AW} {Q : Value → AW → Prop} (H : bC (decide (n1 ≥ 256)) (oB (natIdx (IntKind.wrap IntKind.u8 (Int.fdiv n1 256)) 256) fun m3 => oB (bAt
  (ByteArray.mk (List.toArray (List.append (List.append [0, 1, 2, 2, 3, 3, 3, 3, 4, 4, 4, 4, 4, 4, 4, 4, 5, 5, 5, 5, 5, 5, 5, 5, 5, 5, 5, 5, 5, 5, 5, 5, 6, 6, 6, 6, 6, 6, 6, 6, 6,
  6, 6, 6, 6, 6, 6, 6, 6, 6, 6, 6, 6, 6, 6, 6, 6, 6, 6, 6, 6, 6, 6, 6] [7, 7, 7, 7, 7, 7, 7, 7, 7, 7, 7, 7, 7, 7, 7, 7, 7, 7, 7, 7, 7, 7, 7, 7, 7, 7, 7, 7, 7, 7, 7, 7, 7, 7, 7, 7,
  7, 7, 7, 7, 7, 7, 7, 7, 7, 7, 7, 7, 7, 7, 7, 7, 7, 7, 7, 7, 7, 7, 7, 7, 7, 7, 7, 7]) (List.append [8, 8, 8, 8, 8, 8, 8, 8, 8, 8, 8, 8, 8, 8, 8, 8, 8, 8, 8, 8, 8, 8, 8, 8, 8, 8,
  8, 8, 8, 8, 8, 8, 8, 8, 8, 8, 8, 8, 8, 8, 8, 8, 8, 8, 8, 8, 8, 8, 8, 8, 8, 8, 8, 8, 8, 8, 8, 8, 8, 8, 8, 8, 8, 8] [8, 8, 8, 8, 8, 8, 8, 8, 8, 8, 8, 8, 8, 8, 8, 8, 8, 8, 8, 8, 8,
  8, 8, 8, 8, 8, 8, 8, 8, 8, 8, 8, 8, 8, 8, 8, 8, 8, 8, 8, 8, 8, 8, 8, 8, 8, 8, 8, 8, 8, 8, 8, 8, 8, 8, 8, 8, 8, 8, 8, 8, 8, 8, 8])))) m3) fun n4 => Q (Value.int IntKind.i64
  (IntKind.wrap IntKind.i64 (IntKind.wrap IntKind.i64 (n2 + 8) + IntKind.wrap IntKind.i64 n4))) h) (oB (natIdx (IntKind.wrap IntKind.u8 n1) 256) fun m5 => oB (bAt (ByteArray.mk
  (List.toArray (List.append (List.append [0, 1, 2, 2, 3, 3, 3, 3, 4, 4, 4, 4, 4, 4, 4, 4, 5, 5, 5, 5, 5, 5, 5, 5, 5, 5, 5, 5, 5, 5, 5, 5, 6, 6, 6, 6, 6, 6, 6, 6, 6, 6, 6, 6, 6, 6,
  6, 6, 6, 6, 6, 6, 6, 6, 6, 6, 6, 6, 6, 6, 6, 6, 6, 6] [7, 7, 7, 7, 7, 7, 7, 7, 7, 7, 7, 7, 7, 7, 7, 7, 7, 7, 7, 7, 7, 7, 7, 7, 7, 7, 7, 7, 7, 7, 7, 7, 7, 7, 7, 7, 7, 7, 7, 7, 7,
  7, 7, 7, 7, 7, 7, 7, 7, 7, 7, 7, 7, 7, 7, 7, 7, 7, 7, 7, 7, 7, 7, 7]) (List.append [8, 8, 8, 8, 8, 8, 8, 8, 8, 8, 8, 8, 8, 8, 8, 8, 8, 8, 8, 8, 8, 8, 8, 8, 8, 8, 8, 8, 8, 8, 8,
  8, 8, 8, 8, 8, 8, 8, 8, 8, 8, 8, 8, 8, 8, 8, 8, 8, 8, 8, 8, 8, 8, 8, 8, 8, 8, 8, 8, 8, 8, 8, 8, 8] [8, 8, 8, 8, 8, 8, 8, 8, 8, 8, 8, 8, 8, 8, 8, 8, 8, 8, 8, 8, 8, 8, 8, 8, 8, 8,
  8, 8, 8, 8, 8, 8, 8, 8, 8, 8, 8, 8, 8, 8, 8, 8, 8, 8, 8, 8, 8, 8, 8, 8, 8, 8, 8, 8, 8, 8, 8, 8, 8, 8, 8, 8, 8, 8])))) m5) fun n6 => Q (Value.int IntKind.i64 (IntKind.wrap
  IntKind.i64 (n2 + IntKind.wrap IntKind.i64 n6))) h)) : unitAt P f_math_bits_Len64 7 [0, 2] [Value.int IntKind.u64 n1, Value.int IntKind.i64 n2] h Q := unit_ok (n := 400) (ann := annOf [(4,
  [0, 2]), (7, [0, 2])]) (Eq.mp (by kernel_rfl) H)
theorem r_strconv_bool2_int {b1 : Bool} {h : AW} {Q : Value → AW → Prop} (H : bC b1 (Q (Value.int IntKind.i64 1) h) (Q (Value.int IntKind.i64 0) h)) : EvQ P f_strconv_bool2_int [Value.bool b1] h Q := fn_ok
  (n := 400) (ann := annOf []) (Eq.mp (by kernel_rfl) H)
end Go.Proofs.YtamoepfiodgbbaaGreatDoor
end

section
/- Numbers in decimal digits, made by the library. -/
namespace Go.Proofs.YtamoepfiodgbbaaGreatDoor
open Go.Abs Go.Abs.Fo
set_option maxRecDepth 100000
attribute [local irreducible] unitAt EvQ
variable {h : AW} {μ : Paint} {ρ : Store} {Q : Value → AW → Prop}
def tblS : ByteArray := (ByteArray.mk (List.toArray (List.append (List.append [48, 48, 48, 49, 48, 50, 48, 51, 48, 52, 48, 53, 48, 54, 48, 55, 48, 56, 48, 57, 49, 48, 49, 49, 49, 50, 49, 51, 49, 52, 49,
  53, 49, 54, 49, 55, 49, 56, 49, 57, 50, 48, 50, 49, 50, 50, 50, 51, 50, 52] [50, 53, 50, 54, 50, 55, 50, 56, 50, 57, 51, 48, 51, 49, 51, 50, 51, 51, 51, 52, 51, 53, 51, 54, 51,
  55, 51, 56, 51, 57, 52, 48, 52, 49, 52, 50, 52, 51, 52, 52, 52, 53, 52, 54, 52, 55, 52, 56, 52, 57]) (List.append [53, 48, 53, 49, 53, 50, 53, 51, 53, 52, 53, 53, 53, 54, 53, 55,
  53, 56, 53, 57, 54, 48, 54, 49, 54, 50, 54, 51, 54, 52, 54, 53, 54, 54, 54, 55, 54, 56, 54, 57, 55, 48, 55, 49, 55, 50, 55, 51, 55, 52] [55, 53, 55, 54, 55, 55, 55, 56, 55, 57,
  56, 48, 56, 49, 56, 50, 56, 51, 56, 52, 56, 53, 56, 54, 56, 55, 56, 56, 56, 57, 57, 48, 57, 49, 57, 50, 57, 51, 57, 52, 57, 53, 57, 54, 57, 55, 57, 56, 57, 57]))))
def tblL : ByteArray := (ByteArray.mk (List.toArray (List.append (List.append [0, 1, 2, 2, 3, 3, 3, 3, 4, 4, 4, 4, 4, 4, 4, 4, 5, 5, 5, 5, 5, 5, 5, 5, 5, 5, 5, 5, 5, 5, 5, 5, 6, 6, 6, 6, 6, 6, 6, 6, 6, 6,
  6, 6, 6, 6, 6, 6, 6, 6, 6, 6, 6, 6, 6, 6, 6, 6, 6, 6, 6, 6, 6, 6] [7, 7, 7, 7, 7, 7, 7, 7, 7, 7, 7, 7, 7, 7, 7, 7, 7, 7, 7, 7, 7, 7, 7, 7, 7, 7, 7, 7, 7, 7, 7, 7, 7, 7, 7, 7, 7,
  7, 7, 7, 7, 7, 7, 7, 7, 7, 7, 7, 7, 7, 7, 7, 7, 7, 7, 7, 7, 7, 7, 7, 7, 7, 7, 7]) (List.append [8, 8, 8, 8, 8, 8, 8, 8, 8, 8, 8, 8, 8, 8, 8, 8, 8, 8, 8, 8, 8, 8, 8, 8, 8, 8, 8,
  8, 8, 8, 8, 8, 8, 8, 8, 8, 8, 8, 8, 8, 8, 8, 8, 8, 8, 8, 8, 8, 8, 8, 8, 8, 8, 8, 8, 8, 8, 8, 8, 8, 8, 8, 8, 8] [8, 8, 8, 8, 8, 8, 8, 8, 8, 8, 8, 8, 8, 8, 8, 8, 8, 8, 8, 8, 8, 8,
  8, 8, 8, 8, 8, 8, 8, 8, 8, 8, 8, 8, 8, 8, 8, 8, 8, 8, 8, 8, 8, 8, 8, 8, 8, 8, 8, 8, 8, 8, 8, 8, 8, 8, 8, 8, 8, 8, 8, 8, 8, 8]))))
theorem tblS_lo : ∀ k : Fin 100, bAt tblS (k.1 * 2) = some ((48 + k.1 / 10 : Nat) : Int) := by decide +kernel
theorem tblS_hi : ∀ k : Fin 100, bAt tblS (k.1 * 2 + 1) = some ((48 + k.1 % 10 : Nat) : Int) := by decide +kernel
theorem tblS_sub : ∀ k : Fin 100, 10 ≤ k.1 → bSub tblS (k.1 * 2) (k.1 * 2 + 2) = digS k.1 := by decide +kernel
theorem tblD_sub : ∀ k : Fin 10, bSub (ByteArray.mk #[48, 49, 50, 51, 52, 53, 54, 55, 56, 57, 97, 98, 99, 100, 101, 102, 103, 104, 105, 106, 107, 108, 109, 110, 111, 112, 113, 114, 115, 116, 117, 118, 119, 120, 121, 122]) k.1 (k.1 + 1) = digS k.1 := by decide +kernel
def lenM (n : Nat) : Nat := if n ≥ 128 then 8 else if n ≥ 64 then 7 else if n ≥ 32 then 6 else if n ≥ 16 then 5 else if n ≥ 8 then 4 else if n ≥ 4 then 3 else if n ≥ 2 then 2 else if n ≥ 1 then 1 else 0
theorem tblL_at : ∀ k : Fin 256, bAt tblL k.1 = some (lenM k.1 : Int) := by decide +kernel
theorem small_ok {n : Nat} (hn : n < 100) (hq : Q (.string (digS n)) h) : EvQ P f_strconv_small [.int .i64 (n : Int)] h Q := by
  refine r_strconv_small ?_
  refine bC_iff (fun e => ?_) (fun e => ?_)
  · have e : n < 10 := by have := of_decide_eq_true e; omega
    rw [wrapS (by omega), natBnd_eq (show n + 1 ≤ 36 by omega)]
    simp only [oB_some, bC_true, bC_false, vInt_int, vBool_bool, vStr_string, vPtr_pointer, vSl_slice, vMap_map, vFun_func, vAgg_agg, vTup_tuple, vIfc_nil, vIfc_iface, lC_cons, lN_nil, aP_some, shO_none, shO_some, Option.isNone_none, Option.isNone_some, Bool.not_true, Bool.not_false]
    rw [natBnd_eq (show n ≤ n + 1 by omega)]
    simp only [oB_some, bC_true, bC_false, vInt_int, vBool_bool, vStr_string, vPtr_pointer, vSl_slice, vMap_map, vFun_func, vAgg_agg, vTup_tuple, vIfc_nil, vIfc_iface, lC_cons, lN_nil, aP_some, shO_none, shO_some, Option.isNone_none, Option.isNone_some, Bool.not_true, Bool.not_false]
    have := tblD_sub ⟨n, e⟩
    simp only at this
    rw [this]; exact hq
  · have e : ¬ n < 10 := by have := of_decide_eq_false e; omega
    have h2 : IntKind.wrap .i64 ((n : Int) * 2) = ((n * 2 : Nat) : Int) := by rw [wrap_sm (n := (n : Int) * 2) (by omega) (by omega)]; omega
    have h3 : IntKind.wrap .i64 (((n * 2 : Nat) : Int) + 2) = ((n * 2 + 2 : Nat) : Int) := by rw [wrap_sm (n := ((n * 2 : Nat) : Int) + 2) (by omega) (by omega)]; omega
    rw [h2, h3, natBnd_eq (show n * 2 + 2 ≤ 200 by omega)]
    simp only [oB_some, bC_true, bC_false, vInt_int, vBool_bool, vStr_string, vPtr_pointer, vSl_slice, vMap_map, vFun_func, vAgg_agg, vTup_tuple, vIfc_nil, vIfc_iface, lC_cons, lN_nil, aP_some, shO_none, shO_some, Option.isNone_none, Option.isNone_some, Bool.not_true, Bool.not_false]
    rw [natBnd_eq (show n * 2 ≤ n * 2 + 2 by omega)]
    simp only [oB_some, bC_true, bC_false, vInt_int, vBool_bool, vStr_string, vPtr_pointer, vSl_slice, vMap_map, vFun_func, vAgg_agg, vTup_tuple, vIfc_nil, vIfc_iface, lC_cons, lN_nil, aP_some, shO_none, shO_some, Option.isNone_none, Option.isNone_some, Bool.not_true, Bool.not_false]
    have := tblS_sub ⟨n, hn⟩ (by simp only; omega)
    simp only at this
    have e2 : bSub tblS (n * 2) (n * 2 + 2) = digS n := this
    have hq2 : Q (.string (bSub tblS (n * 2) (n * 2 + 2))) h := by rw [e2]; exact hq
    exact hq2
/-- The powers of ten. -/
abbrev pow10 : List Value := [.int .u64 1, .int .u64 10, .int .u64 100, .int .u64 1000, .int .u64 10000, .int .u64 100000, .int .u64 1000000, .int .u64 10000000, .int .u64 100000000, .int .u64 1000000000, .int .u64 10000000000, .int .u64 100000000000, .int .u64 1000000000000, .int .u64 10000000000000, .int .u64 100000000000000, .int .u64 1000000000000000, .int .u64 10000000000000000, .int .u64 100000000000000000, .int .u64 1000000000000000000, .int .u64 10000000000000000000]
theorem len64_ok {n : Nat} (hn : n ≤ 1000) (hq : Q (.int .i64 ((if n ≥ 256 then 8 + lenM (n / 256) else lenM n : Nat) : Int)) h) : EvQ P f_math_bits_Len64 [.int .u64 (n : Int)] h Q := by
  refine r_math_bits_Len64 ?_
  rw [show decide ((n : Int) ≥ 4294967296) = false from decide_eq_false (by omega)]
  simp only [oB_some, bC_true, bC_false, vInt_int, vBool_bool, vStr_string, vPtr_pointer, vSl_slice, vMap_map, vFun_func, vAgg_agg, vTup_tuple, vIfc_nil, vIfc_iface, lC_cons, lN_nil, aP_some, shO_none, shO_some, Option.isNone_none, Option.isNone_some, Bool.not_true, Bool.not_false]
  refine r_math_bits_Len64_4 ?_
  rw [show decide ((n : Int) ≥ 65536) = false from decide_eq_false (by omega)]
  simp only [oB_some, bC_true, bC_false, vInt_int, vBool_bool, vStr_string, vPtr_pointer, vSl_slice, vMap_map, vFun_func, vAgg_agg, vTup_tuple, vIfc_nil, vIfc_iface, lC_cons, lN_nil, aP_some, shO_none, shO_some, Option.isNone_none, Option.isNone_some, Bool.not_true, Bool.not_false]
  refine r_math_bits_Len64_7 ?_
  have hlen : ∀ k, lenM k ≤ 8 := fun k => by unfold lenM; repeat' split
                                             all_goals omega
  refine bC_iff (fun e => ?_) (fun e => ?_)
  · have e : n ≥ 256 := by have := of_decide_eq_true e; omega
    rw [if_pos e] at hq
    have h1 : IntKind.wrap .u8 (Int.fdiv (n : Int) 256) = ((n / 256 : Nat) : Int) := by
      have : Int.fdiv (n : Int) ((256 : Nat) : Int) = ((n / 256 : Nat) : Int) := by rw [Int.fdiv_eq_ediv_of_nonneg _ (by omega)]; rfl
      rw [show (256 : Int) = ((256 : Nat) : Int) from rfl, this, wrap8 (by omega)]
    rw [h1, natIdx_eq (show n / 256 < 256 by omega)]
    simp only [oB_some, bC_true, bC_false, vInt_int, vBool_bool, vStr_string, vPtr_pointer, vSl_slice, vMap_map, vFun_func, vAgg_agg, vTup_tuple, vIfc_nil, vIfc_iface, lC_cons, lN_nil, aP_some, shO_none, shO_some, Option.isNone_none, Option.isNone_some, Bool.not_true, Bool.not_false]
    have ht := tblL_at ⟨n / 256, by omega⟩
    refine oB_bind (show bAt _ (n / 256) = _ from ht) ?_
    have := hlen (n / 256)
    rw [wrap_sm (n := (lenM (n / 256) : Int)) (by omega) (by omega), show IntKind.wrap .i64 (0 + 8) = 8 from rfl, wrap_sm (n := 8 + (lenM (n / 256) : Int)) (by omega) (by omega)]
    have e3 : (8 : Int) + (lenM (n / 256) : Int) = ((8 + lenM (n / 256) : Nat) : Int) := by omega
    rw [e3]; exact hq
  · have e : ¬ n ≥ 256 := by have := of_decide_eq_false e; omega
    rw [if_neg e] at hq
    rw [wrap8 (n := n) (by omega), natIdx_eq (show n < 256 by omega)]
    simp only [oB_some, bC_true, bC_false, vInt_int, vBool_bool, vStr_string, vPtr_pointer, vSl_slice, vMap_map, vFun_func, vAgg_agg, vTup_tuple, vIfc_nil, vIfc_iface, lC_cons, lN_nil, aP_some, shO_none, shO_some, Option.isNone_none, Option.isNone_some, Bool.not_true, Bool.not_false]
    have ht := tblL_at ⟨n, by omega⟩
    refine oB_bind (show bAt _ n = _ from ht) ?_
    have := hlen n
    rw [wrap_sm (n := (lenM n : Int)) (by omega) (by omega), wrap_sm (n := 0 + (lenM n : Int)) (by omega) (by omega), Int.zero_add]
    exact hq
theorem lens : ∀ k : Fin 1001, 100 ≤ k.1 → (if k.1 ≥ 256 then 8 + lenM (k.1 / 256) else lenM k.1) * 78913 / 262144 = (if k.1 ≥ 512 then 3 else 2) := by decide +kernel
theorem numDigits_ok (O : Own h μ ρ) (T : Vw ρ [] (some ⟨5, 0, none⟩) pow10) {n : Nat} (h1 : 100 ≤ n) (h2 : n ≤ 1000) (hq : Q (.int .i64 ((if n = 1000 then 4 else 3 : Nat) : Int)) h) : EvQ P f_strconv_numDigits [.int .u64 (n : Int)] h Q := by
  refine r_strconv_numDigits ?_
  refine len64_ok h2 ?_
  simp only [oB_some, bC_true, bC_false, vInt_int, vBool_bool, vStr_string, vPtr_pointer, vSl_slice, vMap_map, vFun_func, vAgg_agg, vTup_tuple, vIfc_nil, vIfc_iface, lC_cons, lN_nil, aP_some, shO_none, shO_some, Option.isNone_none, Option.isNone_some, Bool.not_true, Bool.not_false]
  refine r_strconv_log10Pow2 ?_
  have hl := lens ⟨n, by omega⟩ h1
  simp only at hl
  generalize (if n ≥ 256 then 8 + lenM (n / 256) else lenM n) = L at hl
  have hL : L < 1000 := by
    rcases Nat.lt_or_ge L 1000 with x | x
    · exact x
    · have : 1000 * 78913 / 262144 ≤ L * 78913 / 262144 := Nat.div_le_div_right (Nat.mul_le_mul_right _ x)
      rw [hl] at this
      have h3 : 1000 * 78913 / 262144 = 301 := rfl
      rw [h3] at this
      split at this <;> omega
  have e1 : Int.fdiv (IntKind.wrap .i64 ((L : Int) * 78913)) 262144 = ((L * 78913 / 262144 : Nat) : Int) := by
    rw [wrap_sm (n := (L : Int) * 78913) (by omega) (by omega)]
    rw [Int.fdiv_eq_ediv_of_nonneg _ (by omega)]
    omega
  rw [e1, hl]
  simp only [oB_some, bC_true, bC_false, vInt_int, vBool_bool, vStr_string, vPtr_pointer, vSl_slice, vMap_map, vFun_func, vAgg_agg, vTup_tuple, vIfc_nil, vIfc_iface, lC_cons, lN_nil, aP_some, shO_none, shO_some, Option.isNone_none, Option.isNone_some, Bool.not_true, Bool.not_false]
  have X := T.sl O
  by_cases h5 : n ≥ 512
  · rw [if_pos h5, natIdx_eq (show 3 < 20 by omega)]
    simp only [oB_some, bC_true, bC_false, vInt_int, vBool_bool, vStr_string, vPtr_pointer, vSl_slice, vMap_map, vFun_func, vAgg_agg, vTup_tuple, vIfc_nil, vIfc_iface, lC_cons, lN_nil, aP_some, shO_none, shO_some, Option.isNone_none, Option.isNone_some, Bool.not_true, Bool.not_false]
    refine oB_bind (v := .int .u64 1000) (Sl.get (j := 3) X rfl) ?_
    simp only [oB_some, bC_true, bC_false, vInt_int, vBool_bool, vStr_string, vPtr_pointer, vSl_slice, vMap_map, vFun_func, vAgg_agg, vTup_tuple, vIfc_nil, vIfc_iface, lC_cons, lN_nil, aP_some, shO_none, shO_some, Option.isNone_none, Option.isNone_some, Bool.not_true, Bool.not_false]
    refine r_strconv_bool2_int ?_
    refine bC_iff (fun e => ?_) (fun e => ?_)
    · have e : n = 1000 := by have := of_decide_eq_true e; omega
      rw [if_pos e] at hq
      exact hq
    · have e : n ≠ 1000 := by have := of_decide_eq_false e; omega
      rw [if_neg e] at hq
      exact hq
  · rw [if_neg h5, natIdx_eq (show 2 < 20 by omega)]
    simp only [oB_some, bC_true, bC_false, vInt_int, vBool_bool, vStr_string, vPtr_pointer, vSl_slice, vMap_map, vFun_func, vAgg_agg, vTup_tuple, vIfc_nil, vIfc_iface, lC_cons, lN_nil, aP_some, shO_none, shO_some, Option.isNone_none, Option.isNone_some, Bool.not_true, Bool.not_false]
    refine oB_bind (v := .int .u64 100) (Sl.get (j := 2) X rfl) ?_
    simp only [oB_some, bC_true, bC_false, vInt_int, vBool_bool, vStr_string, vPtr_pointer, vSl_slice, vMap_map, vFun_func, vAgg_agg, vTup_tuple, vIfc_nil, vIfc_iface, lC_cons, lN_nil, aP_some, shO_none, shO_some, Option.isNone_none, Option.isNone_some, Bool.not_true, Bool.not_false]
    refine r_strconv_bool2_int ?_
    rw [show decide ((n : Int) ≥ 100) = true from decide_eq_true (by omega)]
    simp only [oB_some, bC_true, bC_false, vInt_int, vBool_bool, vStr_string, vPtr_pointer, vSl_slice, vMap_map, vFun_func, vAgg_agg, vTup_tuple, vIfc_nil, vIfc_iface, lC_cons, lN_nil, aP_some, shO_none, shO_some, Option.isNone_none, Option.isNone_some, Bool.not_true, Bool.not_false]
    rw [if_neg (by omega)] at hq
    exact hq
theorem bytes_of {i off : Nat} : ∀ (l : List UInt8), (∀ j (hj : j < l.length), h.rd i (off + j) = some (.int .u8 (l[j].toNat : Int))) → AW.bytes h (some ⟨i, off, none⟩) l.length = some ⟨⟨l⟩⟩ := by
  intro l hl
  have key : ∀ (l : List UInt8) (off : Nat), (∀ j (hj : j < l.length), h.rd i (off + j) = some (.int .u8 (l[j].toNat : Int))) → h.rdN i off l.length = some (l.map fun b => .int .u8 (b.toNat : Int)) := by
    intro l
    induction l with
    | nil => intro off _; rfl
    | cons b l ih =>
      intro off hl
      simp only [List.length_cons, AW.rdN]
      have h0 := hl 0 (by simp)
      rw [Nat.add_zero] at h0
      rw [h0]
      simp only
      rw [ih (off + 1) fun j hj => by
        have := hl (j + 1) (by simp; omega)
        rw [show off + 1 + j = off + (j + 1) from by omega, this]; simp]
      rfl
  have kb : ∀ l : List UInt8, bytesV (l.map fun b => Value.int .u8 (b.toNat : Int)) = some l := by
    intro l
    induction l with
    | nil => rfl
    | cons b l ih =>
      simp only [List.map_cons, bytesV, ih]
      simp
  unfold AW.bytes
  simp only
  rw [key l off hl]
  simp only
  rw [kb]
end Go.Proofs.YtamoepfiodgbbaaGreatDoor
end

section
/- Numbers in decimal digits: those of three and four digits. -/
namespace Go.Proofs.YtamoepfiodgbbaaGreatDoor
open Go.Abs Go.Abs.Fo
set_option maxRecDepth 100000
attribute [local irreducible] unitAt EvQ
variable {h : AW} {μ : Paint} {ρ : Store} {Q : Value → AW → Prop}
theorem dig3 : ∀ k : Fin 1000, 100 ≤ k.1 → digS k.1 = ⟨#[UInt8.ofNat (48 + k.1 / 100), UInt8.ofNat (48 + k.1 % 100 / 10), UInt8.ofNat (48 + k.1 % 10)]⟩ := by decide +kernel
theorem sl24 (O : Own h μ ρ) {ρ0 : Store} {ns : List Nat} {rs : List Res} (W : Pcs ρ0 ρ ns rs) (i : Nat) {p : Nat} {l : List Value} (hr : rs[i]? = some (.var p l)) {k : Nat} (hk : k + 1 ≤ 24) :
    sliceQ P h ty_24_uint8 (.pointer (some ⟨p, 0, none⟩)) (some (.int .i64 1)) (some (.int .i64 ((k + 1 : Nat) : Int))) = some (.slice (some ⟨p, 1, none⟩) k 23) := by
  obtain ⟨c, _, hc⟩ := W.get i hr
  obtain ⟨_, _, t, ho, _⟩ := O.holds _ _ hc
  unfold sliceQ
  rw [ti_ty_24_uint8]
  simp only
  have e1 : bndO (some (Value.int .i64 ((k + 1 : Nat) : Int))) 24 24 = some (k + 1) := by
    unfold bndO bnd
    simp only
    show (match Nat.ble (k + 1) 24 with | true => some (k + 1) | false => none) = _
    rw [Nat.ble_eq_true_of_le hk]
  rw [e1]
  simp only
  have e2 : bndO (some (Value.int .i64 1)) (k + 1) 0 = some 1 := by
    unfold bndO bnd
    show (match Nat.ble 1 (k + 1) with | true => some 1 | false => none) = _
    rw [Nat.ble_eq_true_of_le (by omega)]
  rw [e2, ti_ty_uint8, ho]
  rfl
theorem u32 {n : Nat} (hn : n < 4294967296) : IntKind.wrap .u32 (n : Int) = (n : Int) := by
  unfold IntKind.wrap
  simp [IntKind.signed, IntKind.bits]
  omega
theorem u64 {n : Nat} (hn : n < 4294967296) : IntKind.wrap .u64 (n : Int) = (n : Int) := by
  unfold IntKind.wrap
  simp [IntKind.signed, IntKind.bits]
  omega
theorem itoa3 (O : Own h μ ρ) (T : Vw ρ [] (some ⟨5, 0, none⟩) pow10) {n : Nat} (h1 : 100 ≤ n) (hk : n < 1000) (hq : RdQ Q ρ (.string (digS n))) : EvQ P f_strconv_FormatInt [.int .i64 (n : Int), .int .i64 10] h Q := by
  refine r_strconv_FormatInt ?_
  rw [show ((10 : Int) == 10) = true from rfl]
  simp only [oB_some, bC_true, bC_false, vInt_int, vBool_bool, vStr_string, vPtr_pointer, vSl_slice, vMap_map, vFun_func, vAgg_agg, vTup_tuple, vIfc_nil, vIfc_iface, lC_cons, lN_nil, aP_some, shO_none, shO_some, Option.isNone_none, Option.isNone_some, Bool.not_true, Bool.not_false]
  rw [show decide ((0 : Int) ≤ (n : Int)) = true from decide_eq_true (by omega)]
  simp only [oB_some, bC_true, bC_false, vInt_int, vBool_bool, vStr_string, vPtr_pointer, vSl_slice, vMap_map, vFun_func, vAgg_agg, vTup_tuple, vIfc_nil, vIfc_iface, lC_cons, lN_nil, aP_some, shO_none, shO_some, Option.isNone_none, Option.isNone_some, Bool.not_true, Bool.not_false]
  rw [show decide ((n : Int) < 100) = false from decide_eq_false (by omega)]
  simp only [oB_some, bC_true, bC_false, vInt_int, vBool_bool, vStr_string, vPtr_pointer, vSl_slice, vMap_map, vFun_func, vAgg_agg, vTup_tuple, vIfc_nil, vIfc_iface, lC_cons, lN_nil, aP_some, shO_none, shO_some, Option.isNone_none, Option.isNone_some, Bool.not_true, Bool.not_false]
  rw [show decide ((n : Int) < 0) = false from decide_eq_false (by omega)]
  simp only [oB_some, bC_true, bC_false, vInt_int, vBool_bool, vStr_string, vPtr_pointer, vSl_slice, vMap_map, vFun_func, vAgg_agg, vTup_tuple, vIfc_nil, vIfc_iface, lC_cons, lN_nil, aP_some, shO_none, shO_some, Option.isNone_none, Option.isNone_some, Bool.not_true, Bool.not_false]
  obtain ⟨μ1, ρ1, c1, O1, W1, hc1⟩ := w_new O p00 [.int .u8 0, .int .u8 0, .int .u8 0, .int .u8 0, .int .u8 0, .int .u8 0, .int .u8 0, .int .u8 0, .int .u8 0, .int .u8 0, .int .u8 0, .int .u8 0, .int .u8 0, .int .u8 0, .int .u8 0, .int .u8 0, .int .u8 0, .int .u8 0, .int .u8 0, .int .u8 0, .int .u8 0, .int .u8 0, .int .u8 0, .int .u8 0]
  have one : ∀ c, c ∈ [c1] → ρ c = none := fun c hc => by simp at hc; rw [hc]; exact hc1
  refine r_strconv_FormatInt_8 ?_
  rw [u64 (by omega)]
  refine numDigits_ok O1 (T.keep (W1.fra0 one)) h1 (by omega) ?_
  rw [if_neg (by omega)]
  simp only [oB_some, bC_true, bC_false, vInt_int, vBool_bool, vStr_string, vPtr_pointer, vSl_slice, vMap_map, vFun_func, vAgg_agg, vTup_tuple, vIfc_nil, vIfc_iface, lC_cons, lN_nil, aP_some, shO_none, shO_some, Option.isNone_none, Option.isNone_some, Bool.not_true, Bool.not_false]
  rw [show IntKind.wrap .i64 (1 + ((3 : Nat) : Int)) = ((3 + 1 : Nat) : Int) from rfl]
  rw [sl24 O1 W1 0 rfl (k := 3) (by omega)]
  simp only [oB_some, bC_true, bC_false, vInt_int, vBool_bool, vStr_string, vPtr_pointer, vSl_slice, vMap_map, vFun_func, vAgg_agg, vTup_tuple, vIfc_nil, vIfc_iface, lC_cons, lN_nil, aP_some, shO_none, shO_some, Option.isNone_none, Option.isNone_some, Bool.not_true, Bool.not_false]
  refine r_strconv_formatBase10 ?_
  refine r_strconv_formatBase10_1 ?_
  rw [show decide (((3 : Nat) : Int) ≥ 8) = false from rfl]
  simp only [oB_some, bC_true, bC_false, vInt_int, vBool_bool, vStr_string, vPtr_pointer, vSl_slice, vMap_map, vFun_func, vAgg_agg, vTup_tuple, vIfc_nil, vIfc_iface, lC_cons, lN_nil, aP_some, shO_none, shO_some, Option.isNone_none, Option.isNone_some, Bool.not_true, Bool.not_false]
  rw [u32 (by omega), show decide (((3 : Nat) : Int) ≥ 4) = false from rfl]
  simp only [oB_some, bC_true, bC_false, vInt_int, vBool_bool, vStr_string, vPtr_pointer, vSl_slice, vMap_map, vFun_func, vAgg_agg, vTup_tuple, vIfc_nil, vIfc_iface, lC_cons, lN_nil, aP_some, shO_none, shO_some, Option.isNone_none, Option.isNone_some, Bool.not_true, Bool.not_false]
  refine r_strconv_formatBase10_20 ?_
  rw [show decide (((3 : Nat) : Int) ≥ 2) = true from rfl]
  simp only [oB_some, bC_true, bC_false, vInt_int, vBool_bool, vStr_string, vPtr_pointer, vSl_slice, vMap_map, vFun_func, vAgg_agg, vTup_tuple, vIfc_nil, vIfc_iface, lC_cons, lN_nil, aP_some, shO_none, shO_some, Option.isNone_none, Option.isNone_some, Bool.not_true, Bool.not_false]
  have e1 : Int.tmod (n : Int) 100 * 2 = ((n % 100 * 2 : Nat) : Int) := by
    have : Int.tmod (n : Int) ((100 : Nat) : Int) = ((n % 100 : Nat) : Int) := rfl
    rw [show (100 : Int) = ((100 : Nat) : Int) from rfl, this]; omega
  have e2 : ((n % 100 * 2 : Nat) : Int) + 1 = ((n % 100 * 2 + 1 : Nat) : Int) := by omega
  rw [e1, u32 (n := n % 100 * 2) (by omega), e2, u32 (n := n % 100 * 2 + 1) (by omega), natIdx_eq (show n % 100 * 2 + 1 < 200 by omega)]
  simp only [oB_some, bC_true, bC_false, vInt_int, vBool_bool, vStr_string, vPtr_pointer, vSl_slice, vMap_map, vFun_func, vAgg_agg, vTup_tuple, vIfc_nil, vIfc_iface, lC_cons, lN_nil, aP_some, shO_none, shO_some, Option.isNone_none, Option.isNone_some, Bool.not_true, Bool.not_false]
  have hm : n % 100 < 100 := Nat.mod_lt _ (by omega)
  refine oB_bind (show bAt _ (n % 100 * 2 + 1) = _ from tblS_hi ⟨n % 100, hm⟩) ?_
  rw [natIdx_eq (show n % 100 * 2 < 200 by omega)]
  simp only [oB_some, bC_true, bC_false, vInt_int, vBool_bool, vStr_string, vPtr_pointer, vSl_slice, vMap_map, vFun_func, vAgg_agg, vTup_tuple, vIfc_nil, vIfc_iface, lC_cons, lN_nil, aP_some, shO_none, shO_some, Option.isNone_none, Option.isNone_some, Bool.not_true, Bool.not_false]
  refine oB_bind (show bAt _ (n % 100 * 2) = _ from tblS_lo ⟨n % 100, hm⟩) ?_
  rw [show natIdx (IntKind.wrap .i64 (((3 : Nat) : Int) - 1)) 3 = some 2 from rfl]
  simp only [oB_some, bC_true, bC_false, vInt_int, vBool_bool, vStr_string, vPtr_pointer, vSl_slice, vMap_map, vFun_func, vAgg_agg, vTup_tuple, vIfc_nil, vIfc_iface, lC_cons, lN_nil, aP_some, shO_none, shO_some, Option.isNone_none, Option.isNone_some, Bool.not_true, Bool.not_false]
  refine w_wr O1 W1 0 (j := 3) rfl (Nat.le_of_ble_eq_true rfl) rfl fun h2 ρ2 O2 W2 => ?_
  rw [show natIdx (IntKind.wrap .i64 (((3 : Nat) : Int) - 2)) 3 = some 1 from rfl]
  simp only [oB_some, bC_true, bC_false, vInt_int, vBool_bool, vStr_string, vPtr_pointer, vSl_slice, vMap_map, vFun_func, vAgg_agg, vTup_tuple, vIfc_nil, vIfc_iface, lC_cons, lN_nil, aP_some, shO_none, shO_some, Option.isNone_none, Option.isNone_some, Bool.not_true, Bool.not_false]
  refine w_wr O2 W2 0 (j := 2) rfl (Nat.le_of_ble_eq_true rfl) rfl fun h3 ρ3 O3 W3 => ?_
  refine r_strconv_formatBase10_25 ?_
  rw [show decide (IntKind.wrap .i64 (((3 : Nat) : Int) - 2) > 0) = true from rfl]
  simp only [oB_some, bC_true, bC_false, vInt_int, vBool_bool, vStr_string, vPtr_pointer, vSl_slice, vMap_map, vFun_func, vAgg_agg, vTup_tuple, vIfc_nil, vIfc_iface, lC_cons, lN_nil, aP_some, shO_none, shO_some, Option.isNone_none, Option.isNone_some, Bool.not_true, Bool.not_false]
  rw [show natIdx 0 3 = some 0 from rfl]
  simp only [oB_some, bC_true, bC_false, vInt_int, vBool_bool, vStr_string, vPtr_pointer, vSl_slice, vMap_map, vFun_func, vAgg_agg, vTup_tuple, vIfc_nil, vIfc_iface, lC_cons, lN_nil, aP_some, shO_none, shO_some, Option.isNone_none, Option.isNone_some, Bool.not_true, Bool.not_false]
  refine w_wr O3 W3 0 (j := 1) rfl (Nat.le_of_ble_eq_true rfl) rfl fun h4 ρ4 O4 W4 => ?_
  rw [show decide ((n : Int) < 0) = false from decide_eq_false (by omega)]
  simp only [oB_some, bC_true, bC_false, vInt_int, vBool_bool, vStr_string, vPtr_pointer, vSl_slice, vMap_map, vFun_func, vAgg_agg, vTup_tuple, vIfc_nil, vIfc_iface, lC_cons, lN_nil, aP_some, shO_none, shO_some, Option.isNone_none, Option.isNone_some, Bool.not_true, Bool.not_false]
  rw [sl24 O4 W4 0 rfl (k := 3) (by omega)]
  simp only [oB_some, bC_true, bC_false, vInt_int, vBool_bool, vStr_string, vPtr_pointer, vSl_slice, vMap_map, vFun_func, vAgg_agg, vTup_tuple, vIfc_nil, vIfc_iface, lC_cons, lN_nil, aP_some, shO_none, shO_some, Option.isNone_none, Option.isNone_some, Bool.not_true, Bool.not_false]
  have e3 : Int.tdiv (n : Int) 100 = ((n / 100 : Nat) : Int) := rfl
  have e4 : IntKind.wrap .u8 (IntKind.wrap .u32 (48 + IntKind.wrap .u32 (Int.tdiv (n : Int) 100))) = ((48 + n / 100 : Nat) : Int) := by
    rw [e3, u32 (n := n / 100) (by omega), show (48 : Int) + ((n / 100 : Nat) : Int) = ((48 + n / 100 : Nat) : Int) from by omega, u32 (n := 48 + n / 100) (by omega), wrap8 (by omega)]
  have hd := dig3 ⟨n, hk⟩ h1
  simp only at hd
  have key : AW.bytes h4 (some ⟨h.next, 1, none⟩) 3 = some (digS n) := by
    rw [hd]
    refine bytes_of [UInt8.ofNat (48 + n / 100), UInt8.ofNat (48 + n % 100 / 10), UInt8.ofNat (48 + n % 10)] fun j hj => ?_
    obtain ⟨c, _, hc⟩ := W4.get 0 rfl
    rw [O4.rd hc]
    match j, hj with
    | 0, _ =>
      show some (Value.int .u8 _) = some (Value.int .u8 (((UInt8.ofNat (48 + n / 100)).toNat : Nat) : Int))
      rw [e4, UInt8.toNat_ofNat', Nat.mod_eq_of_lt (show 48 + n / 100 < 2 ^ 8 by omega)]
    | 1, _ =>
      show some (Value.int .u8 _) = some (Value.int .u8 (((UInt8.ofNat (48 + n % 100 / 10)).toNat : Nat) : Int))
      rw [UInt8.toNat_ofNat', Nat.mod_eq_of_lt (show 48 + n % 100 / 10 < 2 ^ 8 by omega)]
    | 2, _ =>
      show some (Value.int .u8 _) = some (Value.int .u8 (((UInt8.ofNat (48 + n % 10)).toNat : Nat) : Int))
      rw [UInt8.toNat_ofNat', Nat.mod_eq_of_lt (show 48 + n % 10 < 2 ^ 8 by omega)]
      have : n % 100 % 10 = n % 10 := by omega
      first | rw [← this] | (simp only [this])
    | j + 3, hj => simp at hj; omega
  rw [key]
  exact hq _ _ _ O4 (W4.fra0 one)
theorem itoa1000 (O : Own h μ ρ) (T : Vw ρ [] (some ⟨5, 0, none⟩) pow10) (hq : RdQ Q ρ (.string (digS 1000))) : EvQ P f_strconv_FormatInt [.int .i64 1000, .int .i64 10] h Q := by
  refine r_strconv_FormatInt ?_
  rw [show ((10 : Int) == 10) = true from rfl, show decide ((0 : Int) ≤ 1000) = true from rfl, show decide ((1000 : Int) < 100) = false from rfl, show decide ((1000 : Int) < 0) = false from rfl]
  simp only [oB_some, bC_true, bC_false, vInt_int, vBool_bool, vStr_string, vPtr_pointer, vSl_slice, vMap_map, vFun_func, vAgg_agg, vTup_tuple, vIfc_nil, vIfc_iface, lC_cons, lN_nil, aP_some, shO_none, shO_some, Option.isNone_none, Option.isNone_some, Bool.not_true, Bool.not_false]
  obtain ⟨μ1, ρ1, c1, O1, W1, hc1⟩ := w_new O p00 [.int .u8 0, .int .u8 0, .int .u8 0, .int .u8 0, .int .u8 0, .int .u8 0, .int .u8 0, .int .u8 0, .int .u8 0, .int .u8 0, .int .u8 0, .int .u8 0, .int .u8 0, .int .u8 0, .int .u8 0, .int .u8 0, .int .u8 0, .int .u8 0, .int .u8 0, .int .u8 0, .int .u8 0, .int .u8 0, .int .u8 0, .int .u8 0]
  have one : ∀ c, c ∈ [c1] → ρ c = none := fun c hc => by simp at hc; rw [hc]; exact hc1
  refine r_strconv_FormatInt_8 ?_
  rw [show IntKind.wrap .u64 1000 = ((1000 : Nat) : Int) from rfl]
  refine numDigits_ok O1 (T.keep (W1.fra0 one)) (by omega) (by omega) ?_
  rw [if_pos rfl]
  simp only [oB_some, bC_true, bC_false, vInt_int, vBool_bool, vStr_string, vPtr_pointer, vSl_slice, vMap_map, vFun_func, vAgg_agg, vTup_tuple, vIfc_nil, vIfc_iface, lC_cons, lN_nil, aP_some, shO_none, shO_some, Option.isNone_none, Option.isNone_some, Bool.not_true, Bool.not_false]
  rw [show IntKind.wrap .i64 (1 + ((4 : Nat) : Int)) = ((4 + 1 : Nat) : Int) from rfl]
  rw [sl24 O1 W1 0 rfl (k := 4) (by omega)]
  simp only [oB_some, bC_true, bC_false, vInt_int, vBool_bool, vStr_string, vPtr_pointer, vSl_slice, vMap_map, vFun_func, vAgg_agg, vTup_tuple, vIfc_nil, vIfc_iface, lC_cons, lN_nil, aP_some, shO_none, shO_some, Option.isNone_none, Option.isNone_some, Bool.not_true, Bool.not_false]
  refine r_strconv_formatBase10 ?_
  refine r_strconv_formatBase10_1 ?_
  rw [show decide (((4 : Nat) : Int) ≥ 8) = false from rfl]
  simp only [oB_some, bC_true, bC_false, vInt_int, vBool_bool, vStr_string, vPtr_pointer, vSl_slice, vMap_map, vFun_func, vAgg_agg, vTup_tuple, vIfc_nil, vIfc_iface, lC_cons, lN_nil, aP_some, shO_none, shO_some, Option.isNone_none, Option.isNone_some, Bool.not_true, Bool.not_false]
  rw [show decide (((4 : Nat) : Int) ≥ 4) = true from rfl]
  simp only [oB_some, bC_true, bC_false, vInt_int, vBool_bool, vStr_string, vPtr_pointer, vSl_slice, vMap_map, vFun_func, vAgg_agg, vTup_tuple, vIfc_nil, vIfc_iface, lC_cons, lN_nil, aP_some, shO_none, shO_some, Option.isNone_none, Option.isNone_some, Bool.not_true, Bool.not_false]
  refine oB_bind (show natIdx _ _ = some 1 from rfl) ?_
  refine oB_bind (show bAt _ _ = some 48 from rfl) ?_
  refine oB_bind (show natIdx _ _ = some 0 from rfl) ?_
  refine oB_bind (show bAt _ _ = some 48 from rfl) ?_
  refine oB_bind (show natIdx _ _ = some 3 from rfl) ?_
  refine w_wr O1 W1 0 (j := 4) rfl (Nat.le_of_ble_eq_true rfl) rfl fun h2 ρ2 O2 W2 => ?_
  refine oB_bind (show natIdx _ _ = some 2 from rfl) ?_
  refine w_wr O2 W2 0 (j := 3) rfl (Nat.le_of_ble_eq_true rfl) rfl fun h3 ρ3 O3 W3 => ?_
  refine oB_bind (show natIdx _ _ = some 21 from rfl) ?_
  refine oB_bind (show bAt _ _ = some 48 from rfl) ?_
  refine oB_bind (show natIdx _ _ = some 20 from rfl) ?_
  refine oB_bind (show bAt _ _ = some 49 from rfl) ?_
  refine oB_bind (show natIdx _ _ = some 1 from rfl) ?_
  refine w_wr O3 W3 0 (j := 2) rfl (Nat.le_of_ble_eq_true rfl) rfl fun h4 ρ4 O4 W4 => ?_
  refine oB_bind (show natIdx _ _ = some 0 from rfl) ?_
  refine w_wr O4 W4 0 (j := 1) rfl (Nat.le_of_ble_eq_true rfl) rfl fun h5 ρ5 O5 W5 => ?_
  refine r_strconv_formatBase10_20 ?_
  rw [show decide (IntKind.wrap .i64 (((4 : Nat) : Int) - 4) ≥ 2) = false from rfl]
  simp only [oB_some, bC_true, bC_false, vInt_int, vBool_bool, vStr_string, vPtr_pointer, vSl_slice, vMap_map, vFun_func, vAgg_agg, vTup_tuple, vIfc_nil, vIfc_iface, lC_cons, lN_nil, aP_some, shO_none, shO_some, Option.isNone_none, Option.isNone_some, Bool.not_true, Bool.not_false]
  refine r_strconv_formatBase10_25 ?_
  rw [show decide (IntKind.wrap .i64 (((4 : Nat) : Int) - 4) > 0) = false from rfl]
  simp only [oB_some, bC_true, bC_false, vInt_int, vBool_bool, vStr_string, vPtr_pointer, vSl_slice, vMap_map, vFun_func, vAgg_agg, vTup_tuple, vIfc_nil, vIfc_iface, lC_cons, lN_nil, aP_some, shO_none, shO_some, Option.isNone_none, Option.isNone_some, Bool.not_true, Bool.not_false]
  rw [sl24 O5 W5 0 rfl (k := 4) (by omega)]
  simp only [oB_some, bC_true, bC_false, vInt_int, vBool_bool, vStr_string, vPtr_pointer, vSl_slice, vMap_map, vFun_func, vAgg_agg, vTup_tuple, vIfc_nil, vIfc_iface, lC_cons, lN_nil, aP_some, shO_none, shO_some, Option.isNone_none, Option.isNone_some, Bool.not_true, Bool.not_false]
  have key : AW.bytes h5 (some ⟨h.next, 1, none⟩) 4 = some (digS 1000) := by
    rw [show digS 1000 = ⟨⟨[49, 48, 48, 48]⟩⟩ from by decide +kernel]
    refine bytes_of [49, 48, 48, 48] fun j hj => ?_
    obtain ⟨c, _, hc⟩ := W5.get 0 rfl
    rw [O5.rd hc]
    match j, hj with
    | 0, _ => rfl
    | 1, _ => rfl
    | 2, _ => rfl
    | 3, _ => rfl
    | j + 4, hj => simp at hj; omega
  rw [key]
  exact hq _ _ _ O5 (W5.fra0 one)
theorem itoa_ok (O : Own h μ ρ) (T : Vw ρ [] (some ⟨5, 0, none⟩) pow10) {n : Nat} (hn : n ≤ 1000) (hq : RdQ Q ρ (.string (digS n))) : EvQ P f_strconv_Itoa [.int .i64 (n : Int)] h Q := by
  refine r_strconv_Itoa (r_strconv_Itoa_168 ?_)
  have hq2 : RdQ (fun v h => vStr v fun s => vStr (.string s) fun s => Q (.string s) h) ρ (.string (digS n)) := fun h' μ' ρ' O' F' => by
    simp only [oB_some, bC_true, bC_false, vInt_int, vBool_bool, vStr_string, vPtr_pointer, vSl_slice, vMap_map, vFun_func, vAgg_agg, vTup_tuple, vIfc_nil, vIfc_iface, lC_cons, lN_nil, aP_some, shO_none, shO_some, Option.isNone_none, Option.isNone_some, Bool.not_true, Bool.not_false]
    exact hq _ _ _ O' F'
  by_cases h1 : n < 100
  · refine r_strconv_FormatInt ?_
    rw [show ((10 : Int) == 10) = true from rfl]
    simp only [oB_some, bC_true, bC_false, vInt_int, vBool_bool, vStr_string, vPtr_pointer, vSl_slice, vMap_map, vFun_func, vAgg_agg, vTup_tuple, vIfc_nil, vIfc_iface, lC_cons, lN_nil, aP_some, shO_none, shO_some, Option.isNone_none, Option.isNone_some, Bool.not_true, Bool.not_false]
    rw [show decide ((0 : Int) ≤ (n : Int)) = true from decide_eq_true (by omega)]
    simp only [oB_some, bC_true, bC_false, vInt_int, vBool_bool, vStr_string, vPtr_pointer, vSl_slice, vMap_map, vFun_func, vAgg_agg, vTup_tuple, vIfc_nil, vIfc_iface, lC_cons, lN_nil, aP_some, shO_none, shO_some, Option.isNone_none, Option.isNone_some, Bool.not_true, Bool.not_false]
    rw [show decide ((n : Int) < 100) = true from decide_eq_true (by omega)]
    simp only [oB_some, bC_true, bC_false, vInt_int, vBool_bool, vStr_string, vPtr_pointer, vSl_slice, vMap_map, vFun_func, vAgg_agg, vTup_tuple, vIfc_nil, vIfc_iface, lC_cons, lN_nil, aP_some, shO_none, shO_some, Option.isNone_none, Option.isNone_some, Bool.not_true, Bool.not_false]
    refine small_ok h1 ?_
    simp only [oB_some, bC_true, bC_false, vInt_int, vBool_bool, vStr_string, vPtr_pointer, vSl_slice, vMap_map, vFun_func, vAgg_agg, vTup_tuple, vIfc_nil, vIfc_iface, lC_cons, lN_nil, aP_some, shO_none, shO_some, Option.isNone_none, Option.isNone_some, Bool.not_true, Bool.not_false]
    exact hq.now O
  · by_cases h2 : n < 1000
    · exact itoa3 O T (by omega) h2 hq2
    · have : n = 1000 := by omega
      subst this
      exact itoa1000 O T hq2
end Go.Proofs.YtamoepfiodgbbaaGreatDoor
end

section
/- Size, depth, and what may be: the program's. -/
namespace Go.Proofs.YtamoepfiodgbbaaGreatDoor
open Go.Abs Go.Abs.Fo
set_option maxRecDepth 100000
attribute [local irreducible] unitAt EvQ
variable {h : AW} {μ : Paint} {ρ : Store} {Q : Value → AW → Prop}
theorem snocs (pre : F) (op : Int) (args : List Str) (kk : Int) (body : F) : (∀ g : F, (pre.snoc op args kk body).app g = pre.app (.cons op args kk body g)) ∧ (pre.snoc op args kk body).len = pre.len + 1 :=
  ⟨fun g => F.snoc_app pre op args kk body g, F.snoc_len pre op args kk body⟩
theorem size_loop : ∀ (rest : F) {h : AW} {μ : Paint} {ρ : Store} {Q : Value → AW → Prop}, Own h μ ρ → ∀ {pre : F} {a : Option Addr} {c : List Value} {cap n : Nat}, Vw ρ [] a c → Lies (Vw ρ []) (pre.app rest) c → (pre.app rest).len ≤ 140737488355328 → n + rest.more ≤ 1000000000 → rest.size ≤ 1000000000 →
    RdQ Q ρ (.int .i64 ((n + rest.more : Nat) : Int)) → unitAt P f_action_Size 3 [3, 8, 9, 10] [.int .i64 (n : Int), .slice a (pre.app rest).len cap, .int .i64 ((pre.app rest).len : Int), .int .i64 (pre.len : Int)] h Q
  | .nil, h, μ, ρ, Q, O, pre, a, c, cap, n, X, L, hl, hn, hs, hq => by
    refine r_action_Size_3 ?_
    rw [F.app_nil, geI (Nat.le_refl _)]
    simp only [oB_some, bC_true, bC_false, vInt_int, vBool_bool, vStr_string, vPtr_pointer, vSl_slice, vMap_map, vFun_func, vAgg_agg, vTup_tuple, vIfc_nil, vIfc_iface, lC_cons, lN_nil, aP_some, shO_none, shO_some, Option.isNone_none, Option.isNone_some, Bool.not_true, Bool.not_false]
    exact hq.now O
  | .cons op args kk body rest, h, μ, ρ, Q, O, pre, a, c, cap, n, X, L, hl, hn, hs, hq => by
    have hlt : pre.len < (pre.app (.cons op args kk body rest)).len := app_lt
    simp only [F.more, F.size] at hn hs hq
    have hb := F.size_more body
    have hr := F.size_more rest
    refine r_action_Size_3 ?_
    rw [ltI hlt]
    simp only [oB_some, bC_true, bC_false, vInt_int, vBool_bool, vStr_string, vPtr_pointer, vSl_slice, vMap_map, vFun_func, vAgg_agg, vTup_tuple, vIfc_nil, vIfc_iface, lC_cons, lN_nil, aP_some, shO_none, shO_some, Option.isNone_none, Option.isNone_some, Bool.not_true, Bool.not_false]
    refine st_copy O X L rfl rfl fun h1 μ1 ρ1 c1 aa ac ba bc O1 W1 hc1 F1 va la => ?_
    refine w_rd O1 W1 0 (j := 3) rfl rfl ?_
    simp only [oB_some, bC_true, bC_false, vInt_int, vBool_bool, vStr_string, vPtr_pointer, vSl_slice, vMap_map, vFun_func, vAgg_agg, vTup_tuple, vIfc_nil, vIfc_iface, lC_cons, lN_nil, aP_some, shO_none, shO_some, Option.isNone_none, Option.isNone_some, Bool.not_true, Bool.not_false]
    obtain ⟨bcells, v2, l2⟩ := la
    refine r_action_Size ?_
    refine size_loop body O1 (pre := .nil) v2 l2 (show body.len ≤ _ by omega) (show body.len + body.more ≤ _ by omega) (by omega) fun h2 μ2 ρ2 O2 F2 => ?_
    have F12 := F1.trans F2
    simp only [oB_some, bC_true, bC_false, vInt_int, vBool_bool, vStr_string, vPtr_pointer, vSl_slice, vMap_map, vFun_func, vAgg_agg, vTup_tuple, vIfc_nil, vIfc_iface, lC_cons, lN_nil, aP_some, shO_none, shO_some, Option.isNone_none, Option.isNone_some, Bool.not_true, Bool.not_false]
    rw [show IntKind.wrap .i64 ((n : Int) + ((body.len + body.more : Nat) : Int)) = ((n + body.size : Nat) : Int) from by
      rw [wrap_small (n := (n : Int) + ((body.len + body.more : Nat) : Int)) (by omega) (by omega)]; omega, wrapS (by omega)]
    obtain ⟨e3, e4⟩ := snocs pre op args kk body
    have := size_loop rest (Q := Q) O2 (pre := pre.snoc op args kk body) (n := n + body.size) (cap := cap) (X.keep F12) (by rw [e3]; exact L.mono fun _ _ x => x.keep F12) (by rw [e3]; exact hl) (by omega) (by omega) (by
      have := hq.keep F12
      rw [← Nat.add_assoc] at this; exact this)
    rw [e3, e4] at this
    exact this
theorem size_ok (O : Own h μ ρ) {f : F} {a : Option Addr} {cap : Nat} (X : Ly ρ f a) (hs : f.size ≤ 1000000000) (hq : RdQ Q ρ (.int .i64 (f.size : Int))) : EvQ P f_action_Size [.slice a f.len cap] h Q := by
  obtain ⟨c, v, l⟩ := X
  have := F.size_more f
  exact r_action_Size (size_loop f O (pre := .nil) v l (show f.len ≤ _ by omega) (show f.len + f.more ≤ _ by omega) hs (by rw [F.size_more] at hq; exact hq))
theorem imax (a b : Nat) : (if ((b : Nat) : Int) > (a : Int) then ((b : Nat) : Int) else (a : Int)) = ((max a b : Nat) : Int) := by
  split <;> omega
theorem right_loop : ∀ (rest : F) {h : AW} {μ : Paint} {ρ : Store} {Q : Value → AW → Prop}, Own h μ ρ → ∀ {pre : F} {a : Option Addr} {c : List Value} {cap d : Nat}, Vw ρ [] a c → Lies (Vw ρ []) (pre.app rest) c → (pre.app rest).len ≤ 140737488355328 → d + rest.size ≤ 1000000000 → rest.size ≤ 1000000000 →
    RdQ Q ρ (.bool (rest.right d)) → unitAt P f_action_right 2 [1, 7, 8, 9] [.int .i64 (d : Int), .slice a (pre.app rest).len cap, .int .i64 ((pre.app rest).len : Int), .int .i64 (pre.len : Int)] h Q
  | .nil, h, μ, ρ, Q, O, pre, a, c, cap, n, X, L, hl, hn, hs, hq => by
    refine r_action_right_2 ?_
    rw [F.app_nil, geI (Nat.le_refl _)]
    simp only [oB_some, bC_true, bC_false, vInt_int, vBool_bool, vStr_string, vPtr_pointer, vSl_slice, vMap_map, vFun_func, vAgg_agg, vTup_tuple, vIfc_nil, vIfc_iface, lC_cons, lN_nil, aP_some, shO_none, shO_some, Option.isNone_none, Option.isNone_some, Bool.not_true, Bool.not_false]
    exact hq.now O
  | .cons op args kk body rest, hb, μ, ρb, Q, Ob, pre, a, c, cap, d, X, L, hl, hn, hs, hq => by
    have hlt : pre.len < (pre.app (.cons op args kk body rest)).len := app_lt
    simp only [F.size] at hs hn
    have hbs := F.size_more body
    have hrs := F.size_more rest
    obtain ⟨e3, e4⟩ := snocs pre op args kk body
    have no : ∀ {h' : AW} {μ' : Paint} {ρ' : Store}, Own h' μ' ρ' → Fra [] ρb ρ' → F.right (.cons op args kk body rest) d = false → Q (.bool false) h' := fun O' F' e => by
      have := hq _ _ _ O' F'
      rw [e] at this; exact this
    refine r_action_right_2 ?_
    rw [ltI hlt]
    simp only [oB_some, bC_true, bC_false, vInt_int, vBool_bool, vStr_string, vPtr_pointer, vSl_slice, vMap_map, vFun_func, vAgg_agg, vTup_tuple, vIfc_nil, vIfc_iface, lC_cons, lN_nil, aP_some, shO_none, shO_some, Option.isNone_none, Option.isNone_some, Bool.not_true, Bool.not_false]
    refine st_copy Ob X L rfl rfl fun h μ ρ c1 aa ac ba bc O W hc1 F1 va la => ?_
    repeat (first | refine ⟨rfl, ?_⟩ | refine ⟨trivial, ?_⟩ | simp only [oB_some, bC_true, bC_false, vInt_int, vBool_bool, vStr_string, vPtr_pointer, vSl_slice, vMap_map, vFun_func, vAgg_agg, vTup_tuple, vIfc_nil, vIfc_iface, lC_cons, lN_nil, aP_some, shO_none, shO_some, Option.isNone_none, Option.isNone_some, Bool.not_true, Bool.not_false] | refine w_rd (by assumption) (by assumption) 0 (by rfl) (by rfl) ?_ | refine w_wrL (by assumption) (by assumption) 0 (by rfl) (Nat.le_of_ble_eq_true (by rfl)) (by rfl) fun h ρz O W => ?_ | refine w_wr (by assumption) (by assumption) 0 (by rfl) (Nat.le_of_ble_eq_true (by rfl)) (by rfl) fun h ρz O W => ?_)
    refine bC_iff (fun e => no O F1 ?_) (fun x1 => ?_)
    · have e := of_decide_eq_true e
      simp only [F.right, F.fine, decide_eq_false (show ¬ 1 ≤ op by omega), Bool.false_and]
    have x1 := of_decide_eq_false x1
    repeat (first | refine ⟨rfl, ?_⟩ | refine ⟨trivial, ?_⟩ | simp only [oB_some, bC_true, bC_false, vInt_int, vBool_bool, vStr_string, vPtr_pointer, vSl_slice, vMap_map, vFun_func, vAgg_agg, vTup_tuple, vIfc_nil, vIfc_iface, lC_cons, lN_nil, aP_some, shO_none, shO_some, Option.isNone_none, Option.isNone_some, Bool.not_true, Bool.not_false] | refine w_rd (by assumption) (by assumption) 0 (by rfl) (by rfl) ?_ | refine w_wrL (by assumption) (by assumption) 0 (by rfl) (Nat.le_of_ble_eq_true (by rfl)) (by rfl) fun h ρz O W => ?_ | refine w_wr (by assumption) (by assumption) 0 (by rfl) (Nat.le_of_ble_eq_true (by rfl)) (by rfl) fun h ρz O W => ?_)
    refine bC_iff (fun e => no O F1 ?_) (fun x2 => ?_)
    · have e := of_decide_eq_true e
      simp only [F.right, F.fine, decide_eq_false (show ¬ op ≤ 12 by omega), Bool.false_and, Bool.and_false]
    have x2 := of_decide_eq_false x2
    repeat (first | refine ⟨rfl, ?_⟩ | refine ⟨trivial, ?_⟩ | simp only [oB_some, bC_true, bC_false, vInt_int, vBool_bool, vStr_string, vPtr_pointer, vSl_slice, vMap_map, vFun_func, vAgg_agg, vTup_tuple, vIfc_nil, vIfc_iface, lC_cons, lN_nil, aP_some, shO_none, shO_some, Option.isNone_none, Option.isNone_some, Bool.not_true, Bool.not_false] | refine w_rd (by assumption) (by assumption) 0 (by rfl) (by rfl) ?_ | refine w_wrL (by assumption) (by assumption) 0 (by rfl) (Nat.le_of_ble_eq_true (by rfl)) (by rfl) fun h ρz O W => ?_ | refine w_wr (by assumption) (by assumption) 0 (by rfl) (Nat.le_of_ble_eq_true (by rfl)) (by rfl) fun h ρz O W => ?_)
    refine fits_ok ?_
    simp only [oB_some, bC_true, bC_false, vInt_int, vBool_bool, vStr_string, vPtr_pointer, vSl_slice, vMap_map, vFun_func, vAgg_agg, vTup_tuple, vIfc_nil, vIfc_iface, lC_cons, lN_nil, aP_some, shO_none, shO_some, Option.isNone_none, Option.isNone_some, Bool.not_true, Bool.not_false]
    refine bC_iff (fun e => no O F1 ?_) (fun x3 => ?_)
    · simp only [F.right, F.fine, nb e, Bool.false_and, Bool.and_false]
    have x3 := nb' x3
    repeat (first | refine ⟨rfl, ?_⟩ | refine ⟨trivial, ?_⟩ | simp only [oB_some, bC_true, bC_false, vInt_int, vBool_bool, vStr_string, vPtr_pointer, vSl_slice, vMap_map, vFun_func, vAgg_agg, vTup_tuple, vIfc_nil, vIfc_iface, lC_cons, lN_nil, aP_some, shO_none, shO_some, Option.isNone_none, Option.isNone_some, Bool.not_true, Bool.not_false] | refine w_rd (by assumption) (by assumption) 0 (by rfl) (by rfl) ?_ | refine w_wrL (by assumption) (by assumption) 0 (by rfl) (Nat.le_of_ble_eq_true (by rfl)) (by rfl) fun h ρz O W => ?_ | refine w_wr (by assumption) (by assumption) 0 (by rfl) (Nat.le_of_ble_eq_true (by rfl)) (by rfl) fun h ρz O W => ?_)
    refine bC_iff (fun e => no O F1 ?_) (fun x4 => ?_)
    · have e := of_decide_eq_true e
      simp only [F.right, F.fine, decide_eq_false (show ¬ 0 ≤ kk by omega), Bool.false_and, Bool.and_false]
    have x4 := of_decide_eq_false x4
    repeat (first | refine ⟨rfl, ?_⟩ | refine ⟨trivial, ?_⟩ | simp only [oB_some, bC_true, bC_false, vInt_int, vBool_bool, vStr_string, vPtr_pointer, vSl_slice, vMap_map, vFun_func, vAgg_agg, vTup_tuple, vIfc_nil, vIfc_iface, lC_cons, lN_nil, aP_some, shO_none, shO_some, Option.isNone_none, Option.isNone_some, Bool.not_true, Bool.not_false] | refine w_rd (by assumption) (by assumption) 0 (by rfl) (by rfl) ?_ | refine w_wrL (by assumption) (by assumption) 0 (by rfl) (Nat.le_of_ble_eq_true (by rfl)) (by rfl) fun h ρz O W => ?_ | refine w_wr (by assumption) (by assumption) 0 (by rfl) (Nat.le_of_ble_eq_true (by rfl)) (by rfl) fun h ρz O W => ?_)
    refine bC_iff (fun e => no O F1 ?_) (fun x5 => ?_)
    · have e := of_decide_eq_true e
      simp only [F.right, F.fine, decide_eq_false (show ¬ kk ≤ 1000 by omega), Bool.false_and, Bool.and_false]
    have x5 := of_decide_eq_false x5
    have tl : F.fine op args.length kk = true → (opensM op = true → d ≠ 8) → (opensM op = false → body.len = 0) →
        oB (AW.rd h (AW.next hb) 3) fun v65 => vSl v65 fun p66 m67 m68 => EvQ P f_action_right [.slice p66 m67 m68, .int .i64 (IntKind.wrap .i64 ((d : Int) + 1))] h fun v69 h70 => vBool v69 fun b71 => bC (!b71) (Q (.bool false) h70)
          (unitAt P f_action_right 2 [1, 7, 8, 9] [.int .i64 (d : Int), .slice a (pre.app (.cons op args kk body rest)).len cap, .int .i64 ((pre.app (.cons op args kk body rest)).len : Int), .int .i64 (IntKind.wrap .i64 ((pre.len : Int) + 1))] h70 Q) := by
      intro hf h8 h0
      have f2 : (!(opensM op && decide (d = 8))) = true := by
        cases ho : opensM op with
        | true => simp [h8 ho]
        | false => rfl
      have f3 : (opensM op || decide (body.len = 0)) = true := by
        cases ho : opensM op with
        | true => rfl
        | false => simp [h0 ho]
      refine w_rd O W 0 (j := 3) rfl rfl ?_
      simp only [oB_some, bC_true, bC_false, vInt_int, vBool_bool, vStr_string, vPtr_pointer, vSl_slice, vMap_map, vFun_func, vAgg_agg, vTup_tuple, vIfc_nil, vIfc_iface, lC_cons, lN_nil, aP_some, shO_none, shO_some, Option.isNone_none, Option.isNone_some, Bool.not_true, Bool.not_false]
      obtain ⟨bcells, v2, l2⟩ := la
      rw [wrapS (j := d) (by omega)]
      refine r_action_right ?_
      refine right_loop body O (pre := .nil) v2 l2 (show body.len ≤ _ by omega) (by omega) (by omega) fun h2 μ2 ρ2 O2 F2 => ?_
      have F12 := F1.trans F2
      simp only [oB_some, bC_true, bC_false, vInt_int, vBool_bool, vStr_string, vPtr_pointer, vSl_slice, vMap_map, vFun_func, vAgg_agg, vTup_tuple, vIfc_nil, vIfc_iface, lC_cons, lN_nil, aP_some, shO_none, shO_some, Option.isNone_none, Option.isNone_some, Bool.not_true, Bool.not_false]
      refine bC_iff (fun e => no O2 F12 ?_) (fun e => ?_)
      · simp only [F.right, nb e, Bool.false_and, Bool.and_false]
      have e := nb' e
      rw [wrapS (by omega)]
      have := right_loop rest (Q := Q) O2 (pre := pre.snoc op args kk body) (d := d) (cap := cap) (X.keep F12) (by rw [e3]; exact L.mono fun _ _ x => x.keep F12) (by rw [e3]; exact hl) (by omega) (by omega) (by
        have := hq.keep F12
        simp only [F.right, hf, f2, f3, e, Bool.true_and] at this
        exact this)
      rw [e3, e4] at this
      exact this
    have after : F.fine op args.length kk = true →
        oB (AW.rd h (AW.next hb) 0) fun v44 => vInt IntKind.i64 v44 fun n45 => EvQ P f_action_opens [Value.int IntKind.i64 n45] h fun v46 h47 => vBool v46 fun b48 => bC b48 (bC ((d : Int) == 8) (Q
        (Value.bool false) h47) (oB (AW.rd h47 (AW.next hb) 0) fun v49 => vInt IntKind.i64 v49 fun n50 => EvQ P f_action_opens [Value.int IntKind.i64 n50] h47 fun v51 h52 => vBool v51 fun
        b53 => bC (!b53) (oB (AW.rd h52 (AW.next hb) 3) fun v54 => vSl v54 fun p55 m56 m57 => bC (decide ((↑m56 : Int) > 0)) (Q (Value.bool false) h52) (oB (AW.rd h52 (AW.next hb) 3) fun v58
        => vSl v58 fun p59 m60 m61 => EvQ P f_action_right [Value.slice p59 m60 m61, Value.int IntKind.i64 (IntKind.wrap IntKind.i64 ((d : Int) + 1))] h52 fun v62 h63 => vBool v62 fun b64 =>
        bC (!b64) (Q (Value.bool false) h63) (unitAt P f_action_right 2 [1, 7, 8, 9] [Value.int IntKind.i64 (d : Int), Value.slice a (pre.app (.cons op args kk body rest)).len cap, Value.int
        IntKind.i64 ((pre.app (.cons op args kk body rest)).len : Int), Value.int IntKind.i64 (IntKind.wrap IntKind.i64 ((pre.len : Int) + 1))] h63 Q))) (oB (AW.rd h52 (AW.next hb) 3) fun
        v65 => vSl v65 fun p66 m67 m68 => EvQ P f_action_right [Value.slice p66 m67 m68, Value.int IntKind.i64 (IntKind.wrap IntKind.i64 ((d : Int) + 1))] h52 fun v69 h70 => vBool v69 fun
        b71 => bC (!b71) (Q (Value.bool false) h70) (unitAt P f_action_right 2 [1, 7, 8, 9] [Value.int IntKind.i64 (d : Int), Value.slice a (pre.app (.cons op args kk body rest)).len cap,
        Value.int IntKind.i64 ((pre.app (.cons op args kk body rest)).len : Int), Value.int IntKind.i64 (IntKind.wrap IntKind.i64 ((pre.len : Int) + 1))] h70 Q)))) (oB (AW.rd h47 (AW.next
        hb) 0) fun v72 => vInt IntKind.i64 v72 fun n73 => EvQ P f_action_opens [Value.int IntKind.i64 n73] h47 fun v74 h75 => vBool v74 fun b76 => bC (!b76) (oB (AW.rd h75 (AW.next hb) 3)
        fun v77 => vSl v77 fun p78 m79 m80 => bC (decide ((↑m79 : Int) > 0)) (Q (Value.bool false) h75) (oB (AW.rd h75 (AW.next hb) 3) fun v81 => vSl v81 fun p82 m83 m84 => EvQ P
        f_action_right [Value.slice p82 m83 m84, Value.int IntKind.i64 (IntKind.wrap IntKind.i64 ((d : Int) + 1))] h75 fun v85 h86 => vBool v85 fun b87 => bC (!b87) (Q (Value.bool false)
        h86) (unitAt P f_action_right 2 [1, 7, 8, 9] [Value.int IntKind.i64 (d : Int), Value.slice a (pre.app (.cons op args kk body rest)).len cap, Value.int IntKind.i64 ((pre.app (.cons op
        args kk body rest)).len : Int), Value.int IntKind.i64 (IntKind.wrap IntKind.i64 ((pre.len : Int) + 1))] h86 Q))) (oB (AW.rd h75 (AW.next hb) 3) fun v88 => vSl v88 fun p89 m90 m91 =>
        EvQ P f_action_right [Value.slice p89 m90 m91, Value.int IntKind.i64 (IntKind.wrap IntKind.i64 ((d : Int) + 1))] h75 fun v92 h93 => vBool v92 fun b94 => bC (!b94) (Q (Value.bool
        false) h93) (unitAt P f_action_right 2 [1, 7, 8, 9] [Value.int IntKind.i64 (d : Int), Value.slice a (pre.app (.cons op args kk body rest)).len cap, Value.int IntKind.i64 ((pre.app
        (.cons op args kk body rest)).len : Int), Value.int IntKind.i64 (IntKind.wrap IntKind.i64 ((pre.len : Int) + 1))] h93 Q))) := by
      intro hf
      refine w_rd O W 0 (j := 0) rfl rfl ?_
      simp only [oB_some, bC_true, bC_false, vInt_int, vBool_bool, vStr_string, vPtr_pointer, vSl_slice, vMap_map, vFun_func, vAgg_agg, vTup_tuple, vIfc_nil, vIfc_iface, lC_cons, lN_nil, aP_some, shO_none, shO_some, Option.isNone_none, Option.isNone_some, Bool.not_true, Bool.not_false]
      refine opens_ok ?_
      simp only [oB_some, bC_true, bC_false, vInt_int, vBool_bool, vStr_string, vPtr_pointer, vSl_slice, vMap_map, vFun_func, vAgg_agg, vTup_tuple, vIfc_nil, vIfc_iface, lC_cons, lN_nil, aP_some, shO_none, shO_some, Option.isNone_none, Option.isNone_some, Bool.not_true, Bool.not_false]
      refine bC_iff (fun ho => ?_) (fun ho => ?_)
      · refine bC_iff (fun e => no O F1 ?_) (fun e => ?_)
        · have e : d = 8 := by have := eqI e; omega
          simp only [F.right, ho, e, decide_true, Bool.and_true, Bool.not_true, Bool.and_false, Bool.false_and]
        have e : d ≠ 8 := by have := neI e; omega
        refine w_rd O W 0 (j := 0) rfl rfl ?_
        simp only [oB_some, bC_true, bC_false, vInt_int, vBool_bool, vStr_string, vPtr_pointer, vSl_slice, vMap_map, vFun_func, vAgg_agg, vTup_tuple, vIfc_nil, vIfc_iface, lC_cons, lN_nil, aP_some, shO_none, shO_some, Option.isNone_none, Option.isNone_some, Bool.not_true, Bool.not_false]
        refine opens_ok ?_
        rw [ho]
        simp only [oB_some, bC_true, bC_false, vInt_int, vBool_bool, vStr_string, vPtr_pointer, vSl_slice, vMap_map, vFun_func, vAgg_agg, vTup_tuple, vIfc_nil, vIfc_iface, lC_cons, lN_nil, aP_some, shO_none, shO_some, Option.isNone_none, Option.isNone_some, Bool.not_true, Bool.not_false]
        exact tl hf (fun _ => e) (fun x => by rw [ho] at x; cases x)
      · refine w_rd O W 0 (j := 0) rfl rfl ?_
        simp only [oB_some, bC_true, bC_false, vInt_int, vBool_bool, vStr_string, vPtr_pointer, vSl_slice, vMap_map, vFun_func, vAgg_agg, vTup_tuple, vIfc_nil, vIfc_iface, lC_cons, lN_nil, aP_some, shO_none, shO_some, Option.isNone_none, Option.isNone_some, Bool.not_true, Bool.not_false]
        refine opens_ok ?_
        rw [ho]
        simp only [oB_some, bC_true, bC_false, vInt_int, vBool_bool, vStr_string, vPtr_pointer, vSl_slice, vMap_map, vFun_func, vAgg_agg, vTup_tuple, vIfc_nil, vIfc_iface, lC_cons, lN_nil, aP_some, shO_none, shO_some, Option.isNone_none, Option.isNone_some, Bool.not_true, Bool.not_false]
        refine w_rd O W 0 (j := 3) rfl rfl ?_
        simp only [oB_some, bC_true, bC_false, vInt_int, vBool_bool, vStr_string, vPtr_pointer, vSl_slice, vMap_map, vFun_func, vAgg_agg, vTup_tuple, vIfc_nil, vIfc_iface, lC_cons, lN_nil, aP_some, shO_none, shO_some, Option.isNone_none, Option.isNone_some, Bool.not_true, Bool.not_false]
        refine bC_iff (fun e => no O F1 ?_) (fun e => ?_)
        · have e : body.len ≠ 0 := by have := of_decide_eq_true e; omega
          simp only [F.right, ho, decide_eq_false e, Bool.or_false, Bool.and_false, Bool.false_and]
        have e : body.len = 0 := by have := of_decide_eq_false e; omega
        exact tl hf (fun x => by rw [ho] at x; cases x) (fun _ => e)
    repeat (first | refine ⟨rfl, ?_⟩ | refine ⟨trivial, ?_⟩ | simp only [oB_some, bC_true, bC_false, vInt_int, vBool_bool, vStr_string, vPtr_pointer, vSl_slice, vMap_map, vFun_func, vAgg_agg, vTup_tuple, vIfc_nil, vIfc_iface, lC_cons, lN_nil, aP_some, shO_none, shO_some, Option.isNone_none, Option.isNone_some, Bool.not_true, Bool.not_false] | refine w_rd (by assumption) (by assumption) 0 (by rfl) (by rfl) ?_ | refine w_wrL (by assumption) (by assumption) 0 (by rfl) (Nat.le_of_ble_eq_true (by rfl)) (by rfl) fun h ρz O W => ?_ | refine w_wr (by assumption) (by assumption) 0 (by rfl) (Nat.le_of_ble_eq_true (by rfl)) (by rfl) fun h ρz O W => ?_)
    have base : (decide (1 ≤ op) && decide (op ≤ 12) && fitsM op args.length && decide (0 ≤ kk) && decide (kk ≤ 1000)) = true := by
      rw [decide_eq_true (show 1 ≤ op by omega), decide_eq_true (show op ≤ 12 by omega), x3, decide_eq_true (show 0 ≤ kk by omega), decide_eq_true (show kk ≤ 1000 by omega)]; rfl
    refine bC_iff (fun e => ?_) (fun e => ?_)
    · have e := of_decide_eq_true e
      repeat (first | refine ⟨rfl, ?_⟩ | refine ⟨trivial, ?_⟩ | simp only [oB_some, bC_true, bC_false, vInt_int, vBool_bool, vStr_string, vPtr_pointer, vSl_slice, vMap_map, vFun_func, vAgg_agg, vTup_tuple, vIfc_nil, vIfc_iface, lC_cons, lN_nil, aP_some, shO_none, shO_some, Option.isNone_none, Option.isNone_some, Bool.not_true, Bool.not_false] | refine w_rd (by assumption) (by assumption) 0 (by rfl) (by rfl) ?_ | refine w_wrL (by assumption) (by assumption) 0 (by rfl) (Nat.le_of_ble_eq_true (by rfl)) (by rfl) fun h ρz O W => ?_ | refine w_wr (by assumption) (by assumption) 0 (by rfl) (Nat.le_of_ble_eq_true (by rfl)) (by rfl) fun h ρz O W => ?_)
      refine bC_iff (fun e2 => no O F1 ?_) (fun e2 => ?_)
      · have e2 : op ≠ 10 := by simpa using e2
        simp only [F.right, F.fine, decide_eq_false (show ¬ kk = 0 by omega), decide_eq_false e2, Bool.or_self, Bool.and_false, Bool.false_and]
      have e2 : op = 10 := by simpa using e2
      exact after (by unfold F.fine; rw [base, decide_eq_true e2, Bool.or_true]; rfl)
    · have e := of_decide_eq_false e
      exact after (by unfold F.fine; rw [base, decide_eq_true (show kk = 0 by omega), Bool.true_or]; rfl)
theorem right_ok (O : Own h μ ρ) {f : F} {a : Option Addr} {cap : Nat} (X : Ly ρ f a) (hs : f.size ≤ 1000000000) (hq : RdQ Q ρ (.bool (f.right 0))) : EvQ P f_action_right [.slice a f.len cap, .int .i64 0] h Q := by
  obtain ⟨c, v, l⟩ := X
  have := F.size_more f
  exact r_action_right (right_loop f O (pre := .nil) (d := 0) v l (show f.len ≤ _ by omega) (by omega) hs hq)
theorem may_ok (O : Own h μ ρ) {f : F} {a : Option Addr} {cap : Nat} (X : Ly ρ f a) (hs : f.size ≤ 1000000000) (hq : RdQ Q ρ (.bool f.may)) : EvQ P f_action_May [.slice a f.len cap] h Q := by
  refine r_action_May ?_
  refine right_ok O X hs fun h2 μ2 ρ2 O2 F2 => ?_
  simp only [oB_some, bC_true, bC_false, vInt_int, vBool_bool, vStr_string, vPtr_pointer, vSl_slice, vMap_map, vFun_func, vAgg_agg, vTup_tuple, vIfc_nil, vIfc_iface, lC_cons, lN_nil, aP_some, shO_none, shO_some, Option.isNone_none, Option.isNone_some, Bool.not_true, Bool.not_false]
  refine bC_iff (fun e => ?_) (fun e => ?_)
  · refine size_ok O2 (X.keep F2) hs fun h3 μ3 ρ3 O3 F3 => ?_
    simp only [oB_some, bC_true, bC_false, vInt_int, vBool_bool, vStr_string, vPtr_pointer, vSl_slice, vMap_map, vFun_func, vAgg_agg, vTup_tuple, vIfc_nil, vIfc_iface, lC_cons, lN_nil, aP_some, shO_none, shO_some, Option.isNone_none, Option.isNone_some, Bool.not_true, Bool.not_false]
    have := hq _ _ _ O3 (F2.trans F3)
    unfold F.may at this
    rw [e, Bool.true_and] at this
    rw [show decide ((f.size : Int) ≤ 256) = decide (f.size ≤ 256) from decide_eq_decide.2 (by omega)]
    exact this
  · have := hq _ _ _ O2 F2
    unfold F.may at this
    rw [e, Bool.false_and] at this
    exact this
end Go.Proofs.YtamoepfiodgbbaaGreatDoor
end
