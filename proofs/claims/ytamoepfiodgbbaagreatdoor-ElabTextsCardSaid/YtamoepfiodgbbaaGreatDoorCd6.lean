/- A deterministic heap for the model, proved sound, and walks of the program over it: part 12. No condition. -/
import Derived.Test.YtamoepfiodgbbaaGreatDoorAb1
import Derived.Test.YtamoepfiodgbbaaGreatDoorAb2
import Derived.Test.YtamoepfiodgbbaaGreatDoorAb3
import Derived.Test.YtamoepfiodgbbaaGreatDoorAb4
import Derived.Test.YtamoepfiodgbbaaGreatDoorCd4
import Derived.Test.YtamoepfiodgbbaaGreatDoorCd5
import Derived.Test.YtamoepfiodgbbaaGreatDoorAb5
import Derived.Test.YtamoepfiodgbbaaGreatDoorCd1
import Derived.Test.YtamoepfiodgbbaaGreatDoorAb6
import Derived.Test.YtamoepfiodgbbaaGreatDoorCd2
import Derived.Test.YtamoepfiodgbbaaGreatDoorCd3
import Derived.Test.YtamoepfiodgbbaaGreatDoorCards
import Derived.Test.YtamoepfiodgbbaaGreatDoorTie
import Derived.OpenShut
set_option linter.unusedVariables false
set_option linter.unusedSimpArgs false
set_option linter.unusedSectionVars false
section
/- A job's text, of the program and of the document. -/
namespace Go.Proofs.YtamoepfiodgbbaaGreatDoor
open Go.Abs Go.Abs.Fo
set_option maxRecDepth 100000
attribute [local irreducible] unitAt EvQ
variable {h : AW} {μ : Paint} {ρ0 ρ : Store} {Q : Value → AW → Prop} {ns : List Nat} {rs : List Res}
/-- One word more. -/
theorem word_app (O : Own h μ ρ) {n1 : Nat} {a : Option Addr} {cap : Nat} {ws : List Str} (W : Pcs ρ0 ρ (n1 :: ns) (.sl a cap 1 (strs ws) :: rs)) (s : Str) {m : Nat} (hm : m = ws.length) (hw : ws.length ≤ 1000000000) {f : Value → AW → Prop}
    (H : ∀ h' μ' ρ' a' cap', Own h' μ' ρ' → Pcs ρ0 ρ' (n1 :: ns) (.sl a' cap' 1 (strs (ws ++ [s])) :: rs) → f (.slice a' (ws ++ [s]).length cap') h') : oP (appendB P (AW.addVar h [.string s]) ⟨[ty_sl_string, ty_sl_string]⟩ [.slice a m cap, .slice (some ⟨h.next, 0, none⟩) 1 1]) f := by
  subst hm
  obtain ⟨μ1, ρ1, c, O1, W1, hc⟩ := w_block O W [.string s] (n := 1) (sz := 1) rfl rfl
  refine w_app (P := P) O1 W1 1 ti_ty_sl_string ti_ty_string (Nat.succ_pos 0) rfl (n := ws.length) (m := 1) (by simp) (w_sl O1 W1 0 rfl) rfl rfl (by omega) (by omega) fun a' cap' h3 μ3 ρ3 O3 W3 => ?_
  have W4 : Pcs ρ0 ρ3 (n1 :: ns) (.sl a' cap' 1 (strs ws ++ [.string s]) :: rs) := Pcs.tail W3 hc
  have := H _ _ _ a' cap' O3 (W4.eq (by simp [strs]))
  rw [List.length_append] at this
  exact this
def showS (s : Str) : Str := ⟨⟨showL s.data.toList⟩⟩
def wRule : Str := ⟨#[114, 117, 108, 101]⟩
def wColon : Str := ⟨#[58]⟩
theorem show_le (l : List UInt8) : (showL l).length ≤ 2 * l.length + 2 := by
  unfold showL
  split
  · omega
  · exact quote_le l
theorem tot_cons (s : Str) (l : List Str) : tot (s :: l) = 1 + s.size + tot l := by unfold tot; rw [List.map_cons, List.sum_cons]
theorem tot_app (x y : List Str) : tot (x ++ y) = tot x + tot y := by unfold tot; rw [List.map_append, List.sum_append]
theorem tot_show (x : List Str) : tot (x.map showS) ≤ 3 * tot x := by
  induction x with
  | nil => exact Nat.le_refl _
  | cons s x ih =>
    rw [List.map_cons, tot_cons, tot_cons]
    have := show_le s.data.toList
    have h1 : s.data.toList.length = s.size := rfl
    have h2 : (showS s).size = (showL s.data.toList).length := rfl
    omega
theorem len_tot (l : List Str) : l.length ≤ tot l := by
  induction l with
  | nil => exact Nat.zero_le _
  | cons s l ih => rw [tot_cons, List.length_cons]; omega
theorem str_tot {l : List Str} {s : Str} (hs : s ∈ l) : s.size ≤ tot l := by
  induction l with
  | nil => cases hs
  | cons t l ih =>
    rw [tot_cons]
    rcases List.mem_cons.1 hs with rfl | h
    · omega
    · have := ih h; omega
/-- The words of the header, from a list of them on. -/
theorem job_3 {x : List Str} {xa : Option Addr} {xc : Nat} (X : Vw ρ [] xa (strs x)) (hx : tot x ≤ 1000000) {n1 n2 : Nat} (h1 : ρ n1 = none) (h2 : ρ n2 = none) {j : Nat} {jl : List Value} {ws0 : List Str} (hw : ws0.length ≤ 100000000) {ya : Option Addr} {yn yc : Nat} (hy : jl[2]? = some (.slice ya yn yc))
    (next : ∀ {h : AW} {μ : Paint} {ρ' : Store} {a : Option Addr} {cap : Nat}, Own h μ ρ' → Pcs ρ ρ' [n1, n2] [.sl a cap 1 (strs ((ws0 ++ x.map showS) ++ [wColon])), .var j jl] →
      unitAt P f_elab_JobText 9 [1, 3, 31, 32, 33] [.pointer (some ⟨j, 0, none⟩), .slice a ((ws0 ++ x.map showS) ++ [wColon]).length cap, .slice ya yn yc, .int .i64 (yn : Int), .int .i64 0] h Q) :
    ∀ (d k : Nat) {h : AW} {μ : Paint} {ρ' : Store} {a : Option Addr} {cap m : Nat} {ws : List Str}, x.length - k = d → k ≤ x.length → Own h μ ρ' → Pcs ρ ρ' [n1, n2] [.sl a cap 1 (strs ws), .var j jl] → m = ws.length → ws = ws0 ++ (x.take k).map showS →
      unitAt P f_elab_JobText 3 [1, 3, 15, 16, 17] [.pointer (some ⟨j, 0, none⟩), .slice a m cap, .slice xa x.length xc, .int .i64 (x.length : Int), .int .i64 (k : Int)] h Q := by
  have hxl := len_tot x
  intro d
  induction d with
  | zero =>
    intro k h μ ρ' a cap m ws hd hk O W hm he
    have : k = x.length := by omega
    subst this
    rw [List.take_length] at he
    subst he
    refine r_elab_JobText_3 ?_
    rw [geI (Nat.le_refl _)]
    simp only [oB_some, bC_true, bC_false, vInt_int, vBool_bool, vStr_string, vPtr_pointer, vSl_slice, vMap_map, vFun_func, vAgg_agg, vTup_tuple, vIfc_nil, vIfc_iface, lC_cons, lN_nil, aP_some, shO_none, shO_some, Option.isNone_none, Option.isNone_some, Bool.not_true, Bool.not_false]
    refine word_app O W wColon hm (by simp; omega) fun h3 μ3 ρ3 a3 cap3 O3 W3 => ?_
    simp only [oB_some, bC_true, bC_false, vInt_int, vBool_bool, vStr_string, vPtr_pointer, vSl_slice, vMap_map, vFun_func, vAgg_agg, vTup_tuple, vIfc_nil, vIfc_iface, lC_cons, lN_nil, aP_some, shO_none, shO_some, Option.isNone_none, Option.isNone_some, Bool.not_true, Bool.not_false]
    refine w_rd O3 W3 1 (j := 2) rfl hy ?_
    simp only [oB_some, bC_true, bC_false, vInt_int, vBool_bool, vStr_string, vPtr_pointer, vSl_slice, vMap_map, vFun_func, vAgg_agg, vTup_tuple, vIfc_nil, vIfc_iface, lC_cons, lN_nil, aP_some, shO_none, shO_some, Option.isNone_none, Option.isNone_some, Bool.not_true, Bool.not_false]
    exact next O3 W3
  | succ d ih =>
    intro k h μ ρ' a cap m ws hd hk O W hm he
    have hl : k < x.length := by omega
    have hsz := str_tot (List.getElem_mem hl)
    have F : Fra [] ρ ρ' := W.fra0 fun c hc => by
      simp only [List.mem_cons, List.not_mem_nil, or_false] at hc
      rcases hc with rfl | rfl <;> assumption
    refine r_elab_JobText_3 ?_
    rw [ltI hl]
    simp only [oB_some, bC_true, bC_false, vInt_int, vBool_bool, vStr_string, vPtr_pointer, vSl_slice, vMap_map, vFun_func, vAgg_agg, vTup_tuple, vIfc_nil, vIfc_iface, lC_cons, lN_nil, aP_some, shO_none, shO_some, Option.isNone_none, Option.isNone_some, Bool.not_true, Bool.not_false]
    refine wd_at O (X.keep F) rfl rfl hl ?_
    refine show_ok O (by omega) fun h4 μ4 ρ4 O4 F4 => ?_
    have W4 := W.keep0 F4
    simp only [oB_some, bC_true, bC_false, vInt_int, vBool_bool, vStr_string, vPtr_pointer, vSl_slice, vMap_map, vFun_func, vAgg_agg, vTup_tuple, vIfc_nil, vIfc_iface, lC_cons, lN_nil, aP_some, shO_none, shO_some, Option.isNone_none, Option.isNone_some, Bool.not_true, Bool.not_false]
    refine word_app O4 W4 (showS x[k]) hm (by rw [he]; simp; omega) fun h3 μ3 ρ3 a3 cap3 O3 W3 => ?_
    simp only [oB_some, bC_true, bC_false, vInt_int, vBool_bool, vStr_string, vPtr_pointer, vSl_slice, vMap_map, vFun_func, vAgg_agg, vTup_tuple, vIfc_nil, vIfc_iface, lC_cons, lN_nil, aP_some, shO_none, shO_some, Option.isNone_none, Option.isNone_some, Bool.not_true, Bool.not_false]
    rw [wrapS (by omega)]
    exact ih (k + 1) (by omega) (by omega) O3 W3 rfl (by rw [he, List.take_succ_eq_append_getElem hl, List.map_append, List.append_assoc]; rfl)
theorem job_9 {x : List Str} {xa : Option Addr} {xc : Nat} (X : Vw ρ [] xa (strs x)) (hx : tot x ≤ 1000000) {n1 n2 : Nat} (h1 : ρ n1 = none) (h2 : ρ n2 = none) {j : Nat} {jl : List Value} {ws0 : List Str} (hw : ws0.length ≤ 100000000)
    (next : ∀ {h : AW} {μ : Paint} {ρ' : Store} {a : Option Addr} {cap : Nat}, Own h μ ρ' → Pcs ρ ρ' [n1, n2] [.sl a cap 1 (strs (ws0 ++ x.map showS)), .var j jl] →
      EvQ P f_strings_Join [.slice a (ws0 ++ x.map showS).length cap, .string ⟨#[32]⟩] h fun v23 h24 => vStr v23 fun s25 => bC (Nat.ble (ByteArray.size s25 + 1) 9223372036854775807) (oB (AW.rd h24 j 3) fun v26 => vSl v26 fun p27 m28 m29 => EvQ P f_action_Print [.slice p27 m28 m29] h24 fun v30 h31 => vTup v30 fun l32 => lC l32 fun v33 l34 => vStr v33 fun s35 => lC l34 fun v36 l37 => vInt .i64 v36 fun n38 => lN l37 (bC (n38 != 0) (Q (.string (s25 ++ ⟨#[10]⟩)) h31) (EvQ P f_strings_SplitAfter [.string s35, .string ⟨#[10]⟩] h31 fun v39 h40 => vSl v39 fun p41 m42 m43 => unitAt P f_elab_JobText 18 [8, 56, 57, 58] [.string (s25 ++ ⟨#[10]⟩), .slice p41 m42 m43, .int .i64 (m42 : Int), .int .i64 0] h40 Q))) False) :
    ∀ (d k : Nat) {h : AW} {μ : Paint} {ρ' : Store} {a : Option Addr} {cap m : Nat} {ws : List Str}, x.length - k = d → k ≤ x.length → Own h μ ρ' → Pcs ρ ρ' [n1, n2] [.sl a cap 1 (strs ws), .var j jl] → m = ws.length → ws = ws0 ++ (x.take k).map showS →
      unitAt P f_elab_JobText 9 [1, 3, 31, 32, 33] [.pointer (some ⟨j, 0, none⟩), .slice a m cap, .slice xa x.length xc, .int .i64 (x.length : Int), .int .i64 (k : Int)] h Q := by
  have hxl := len_tot x
  intro d
  induction d with
  | zero =>
    intro k h μ ρ' a cap m ws hd hk O W hm he
    have : k = x.length := by omega
    subst this
    rw [List.take_length] at he
    subst he
    subst hm
    refine r_elab_JobText_9 ?_
    rw [geI (Nat.le_refl _)]
    simp only [oB_some, bC_true, bC_false, vInt_int, vBool_bool, vStr_string, vPtr_pointer, vSl_slice, vMap_map, vFun_func, vAgg_agg, vTup_tuple, vIfc_nil, vIfc_iface, lC_cons, lN_nil, aP_some, shO_none, shO_some, Option.isNone_none, Option.isNone_some, Bool.not_true, Bool.not_false]
    exact next O W
  | succ d ih =>
    intro k h μ ρ' a cap m ws hd hk O W hm he
    have hl : k < x.length := by omega
    have hsz := str_tot (List.getElem_mem hl)
    have F : Fra [] ρ ρ' := W.fra0 fun c hc => by
      simp only [List.mem_cons, List.not_mem_nil, or_false] at hc
      rcases hc with rfl | rfl <;> assumption
    refine r_elab_JobText_9 ?_
    rw [ltI hl]
    simp only [oB_some, bC_true, bC_false, vInt_int, vBool_bool, vStr_string, vPtr_pointer, vSl_slice, vMap_map, vFun_func, vAgg_agg, vTup_tuple, vIfc_nil, vIfc_iface, lC_cons, lN_nil, aP_some, shO_none, shO_some, Option.isNone_none, Option.isNone_some, Bool.not_true, Bool.not_false]
    refine wd_at O (X.keep F) rfl rfl hl ?_
    refine show_ok O (by omega) fun h4 μ4 ρ4 O4 F4 => ?_
    have W4 := W.keep0 F4
    simp only [oB_some, bC_true, bC_false, vInt_int, vBool_bool, vStr_string, vPtr_pointer, vSl_slice, vMap_map, vFun_func, vAgg_agg, vTup_tuple, vIfc_nil, vIfc_iface, lC_cons, lN_nil, aP_some, shO_none, shO_some, Option.isNone_none, Option.isNone_some, Bool.not_true, Bool.not_false]
    refine word_app O4 W4 (showS x[k]) hm (by rw [he]; simp; omega) fun h3 μ3 ρ3 a3 cap3 O3 W3 => ?_
    simp only [oB_some, bC_true, bC_false, vInt_int, vBool_bool, vStr_string, vPtr_pointer, vSl_slice, vMap_map, vFun_func, vAgg_agg, vTup_tuple, vIfc_nil, vIfc_iface, lC_cons, lN_nil, aP_some, shO_none, shO_some, Option.isNone_none, Option.isNone_some, Bool.not_true, Bool.not_false]
    rw [wrapS (by omega)]
    exact ih (k + 1) (by omega) (by omega) O3 W3 rfl (by rw [he, List.take_succ_eq_append_getElem hl, List.map_append, List.append_assoc]; rfl)
def hdrS (ts ds : List Str) : List Str := (([wRule] ++ ts.map showS) ++ [wColon]) ++ ds.map showS
theorem hdr_join (ts ds : List Str) (L : List Line) : (joinL (hdrS ts ds) ++ [10]) ++ tabL L = jobL ts ds L := by
  unfold hdrS jobL hdrW
  simp only [List.cons_append, List.nil_append, joinL, List.map_append, List.map_cons, List.map_map, List.append_assoc, List.map_nil]
  rfl
theorem tab_le (L : List Line) : (tabL L).length ≤ 2 * (prL L).length := by
  induction L with
  | nil => exact Nat.le_refl _
  | cons l L ih =>
    have e : tabL (l :: L) = 9 :: (jn true l ++ [10]) ++ tabL L := rfl
    rw [e, prL_cons]
    simp only [List.length_append, List.length_cons, List.length_nil]
    omega
/-- A job's text, of the program. -/
theorem jobText_ok (O : Own h μ ρ) (T : Vw ρ [] (some ⟨5, 0, none⟩) pow10) {ts ds : List Str} {f : F} {b a c : Option Addr} {s : Str} {cb ca cc : Nat} (J : JobAt ρ ts ds f b a c) (ht : tot ts ≤ 131071) (hd : tot ds ≤ 131071) (hfl : f.len ≤ 140737488355328) (hz : f.size ≤ 1000000000) (hs : Slim f) (hf : full f ≤ 262143)
    (hq : RdQ Q ρ (.string ⟨⟨jobL ts ds (linesM f)⟩⟩)) : EvQ P f_elab_JobText [.agg ⟨[.string s, .slice b ts.length cb, .slice a ds.length ca, .slice c f.len cc]⟩] h Q := by
  refine r_elab_JobText ?_
  obtain ⟨μ1, ρ1, c1, O1, W1, hc1⟩ := w_new O p00 [.string s, .slice b ts.length cb, .slice a ds.length ca, .slice c f.len cc]
  obtain ⟨μ2, ρ2, c2, O2, W2, hc2⟩ := w_block O1 W1 [.string wRule] (n := 1) (sz := 1) rfl rfl
  refine w_rd O2 W2 1 (j := 1) rfl rfl ?_
  simp only [oB_some, bC_true, bC_false, vInt_int, vBool_bool, vStr_string, vPtr_pointer, vSl_slice, vMap_map, vFun_func, vAgg_agg, vTup_tuple, vIfc_nil, vIfc_iface, lC_cons, lN_nil, aP_some, shO_none, shO_some, Option.isNone_none, Option.isNone_some, Bool.not_true, Bool.not_false]
  have hl1 := len_tot ts
  have hl2 := len_tot ds
  refine job_3 (ws0 := [wRule]) (ws := [wRule]) (xc := cb) (jl := [.string s, .slice b ts.length cb, .slice a ds.length ca, .slice c f.len cc]) J.ts (by omega) hc2 hc1 (by simp) (ya := a) (yn := ds.length) (yc := ca) rfl (fun {h3 μ3 ρ3 a3 cap3} O3 W3 => ?_) _ 0 rfl (Nat.zero_le _) O2 W2 rfl rfl
  refine job_9 (ws0 := ([wRule] ++ ts.map showS) ++ [wColon]) J.ds (by omega) hc2 hc1 (by simp; omega) (fun {h4 μ4 ρ4 a4 cap4} O4 W4 => ?_) _ 0 rfl (Nat.zero_le _) O3 W3 rfl (by simp)
  have F4 : Fra [] ρ ρ4 := W4.fra0 fun c hc => by
    simp only [List.mem_cons, List.not_mem_nil, or_false] at hc
    rcases hc with rfl | rfl <;> assumption
  have htot : tot (hdrS ts ds) ≤ 1000000 := by
    unfold hdrS
    rw [tot_app, tot_app, tot_app]
    have g1 := tot_show ts
    have g2 := tot_show ds
    have g3 : tot [wRule] = 5 := by decide
    have g4 : tot [wColon] = 2 := by decide
    omega
  have X4 : Vw ρ4 [] a4 (strs (hdrS ts ds)) := by
    obtain ⟨n, hn, hcn⟩ := W4.get 0 rfl
    exact .inr (Rd.of_sl O4 (by simp) hcn)
  have hcap : (hdrS ts ds).length ≤ cap4 := by
    have := w_cap O4 W4 0 rfl
    simp only [strs, List.length_map, Nat.mul_one] at this
    exact this
  have hdef : (([wRule] ++ ts.map showS) ++ [wColon]) ++ ds.map showS = hdrS ts ds := rfl
  have hlen2 : 2 ≤ (hdrS ts ds).length := by unfold hdrS; simp; omega
  rw [hdef]
  refine join_ok O4 X4 hlen2 hcap (by omega) fun h5 μ5 ρ5 O5 F5 => ?_
  have W5 := W4.keep0 F5
  have F5 := F4.trans F5
  have hjl := join_len (hdrS ts ds)
  have hsz : (⟨⟨joinL (hdrS ts ds)⟩⟩ : ByteArray).size = (joinL (hdrS ts ds)).length := rfl
  simp only [oB_some, bC_true, bC_false, vInt_int, vBool_bool, vStr_string, vPtr_pointer, vSl_slice, vMap_map, vFun_func, vAgg_agg, vTup_tuple, vIfc_nil, vIfc_iface, lC_cons, lN_nil, aP_some, shO_none, shO_some, Option.isNone_none, Option.isNone_some, Bool.not_true, Bool.not_false]
  rw [hsz, Nat.ble_eq_true_of_le (by omega)]
  simp only [oB_some, bC_true, bC_false, vInt_int, vBool_bool, vStr_string, vPtr_pointer, vSl_slice, vMap_map, vFun_func, vAgg_agg, vTup_tuple, vIfc_nil, vIfc_iface, lC_cons, lN_nil, aP_some, shO_none, shO_some, Option.isNone_none, Option.isNone_some, Bool.not_true, Bool.not_false]
  refine w_rd O5 W5 1 (j := 3) rfl rfl ?_
  simp only [oB_some, bC_true, bC_false, vInt_int, vBool_bool, vStr_string, vPtr_pointer, vSl_slice, vMap_map, vFun_func, vAgg_agg, vTup_tuple, vIfc_nil, vIfc_iface, lC_cons, lN_nil, aP_some, shO_none, shO_some, Option.isNone_none, Option.isNone_some, Bool.not_true, Bool.not_false]
  refine print_ok O5 (T.keep F5) (J.code.keep F5) hfl hz hs hf fun h6 μ6 ρ6 O6 F6 => ?_
  have F6 := F5.trans F6
  simp only [oB_some, bC_true, bC_false, vInt_int, vBool_bool, vStr_string, vPtr_pointer, vSl_slice, vMap_map, vFun_func, vAgg_agg, vTup_tuple, vIfc_nil, vIfc_iface, lC_cons, lN_nil, aP_some, shO_none, shO_some, Option.isNone_none, Option.isNone_some, Bool.not_true, Bool.not_false]
  have e10 : (⟨⟨joinL (hdrS ts ds)⟩⟩ : ByteArray) ++ ⟨#[10]⟩ = ⟨⟨joinL (hdrS ts ds) ++ [10]⟩⟩ := app_str _ [10]
  rw [e10]
  cases hm : f.may with
  | false =>
    have e2 : errM f = 2 := by unfold errM; rw [hm]; rfl
    have e1 : linesM f = [] := by unfold linesM; rw [hm]; rfl
    rw [e1, ← hdr_join] at hq
    rw [e2]
    show bC true _ _
    simp only [oB_some, bC_true, bC_false, vInt_int, vBool_bool, vStr_string, vPtr_pointer, vSl_slice, vMap_map, vFun_func, vAgg_agg, vTup_tuple, vIfc_nil, vIfc_iface, lC_cons, lN_nil, aP_some, shO_none, shO_some, Option.isNone_none, Option.isNone_some, Bool.not_true, Bool.not_false]
    have := hq _ _ _ O6 F6
    rw [show tabL [] = [] from rfl, List.append_nil] at this
    exact this
  | true =>
    have e2 : errM f = 0 := by unfold errM; rw [hm]; rfl
    rw [e2]
    show bC false _ _
    simp only [oB_some, bC_true, bC_false, vInt_int, vBool_bool, vStr_string, vPtr_pointer, vSl_slice, vMap_map, vFun_func, vAgg_agg, vTup_tuple, vIfc_nil, vIfc_iface, lC_cons, lN_nil, aP_some, shO_none, shO_some, Option.isNone_none, Option.isNone_some, Bool.not_true, Bool.not_false]
    have hB : (prL (linesM f)).length ≤ 100000000 := by
      have := lines_sum f
      have e1 : linesM f = f.lines := by unfold linesM; rw [hm]; rfl
      rw [e1]
      have h' : (f.lines.map fun l => 1 + (l.map fun s => 1 + s.size).sum).sum ≤ 10485720 := by
        have : 40 * full f ≤ 10485720 := by omega
        exact Nat.le_trans (lines_sum f) this
      exact Nat.le_trans (prL_len _) (Nat.le_trans (Nat.mul_le_mul_left 3 h') (by decide))
    refine split_ok O6 (by omega) fun h7 μ7 ρ7 c7 a7 O7 W7 hc7 => ?_
    have F7 := F6.trans (W7.fra0 fun c hc => by simp at hc; subst hc; exact hc7)
    simp only [oB_some, bC_true, bC_false, vInt_int, vBool_bool, vStr_string, vPtr_pointer, vSl_slice, vMap_map, vFun_func, vAgg_agg, vTup_tuple, vIfc_nil, vIfc_iface, lC_cons, lN_nil, aP_some, shO_none, shO_some, Option.isNone_none, Option.isNone_some, Bool.not_true, Bool.not_false]
    have X7 : Vw ρ7 [] a7 (strs (splitA (linesM f))) := by
      obtain ⟨n, hn, hcn⟩ := W7.get 0 rfl
      exact .inr (Rd.of_sl O7 (by simp) hcn)
    have hLl : (linesM f).length ≤ (prL (linesM f)).length := by rw [← prL_count (linesM f)]; exact List.count_le_length
    have htl := tab_le (linesM f)
    have hjb := hdr_join ts ds (linesM f)
    have hsl : (splitA (linesM f)).length = (linesM f).length + 1 := by unfold splitA; simp
    have := tab_18 (Q := Q) (x := splitA (linesM f)) (cap := (linesM f).length + 1) (fin := jobL ts ds (linesM f)) O7 X7 (by omega) (by rw [← hjb]; simp only [List.length_append, List.length_cons, List.length_nil]; omega) (hq _ _ _ O7 F7) _ 0 (joinL (hdrS ts ds) ++ [10]) rfl (Nat.zero_le _) (by rw [List.drop_zero, tab_split, hjb])
    rw [hsl] at this
    exact this
end Go.Proofs.YtamoepfiodgbbaaGreatDoor
end

section
/- A job's text, of the document. -/
namespace Go.Proofs.YtamoepfiodgbbaaGreatDoor
open Go.Abs Go.Abs.Fo
set_option maxRecDepth 100000
attribute [local irreducible] unitAt EvQ
variable {h : AW} {μ : Paint} {ρ0 ρ : Store} {Q : Value → AW → Prop} {ns : List Nat} {rs : List Res}
/-- Bytes of a literal. -/
theorem conv_same {h : AW} {l : List Value} {n : Nat} (h1 : 1 ≤ n) : convA P (h.addVar l) ty_sl_uint8 ty_sl_uint8 (.slice (some ⟨h.next, 0, none⟩) n n) = some (.slice (some ⟨h.next, 0, none⟩) n n, h.addVar l) := by
  unfold convA
  rw [ti_ty_sl_uint8]
  simp only
  rw [Nat.beq_refl, Nat.ble_eq_true_of_le h1]
  rw [show (h.addVar l).objs.get? h.next = some (.var (T.ofList l) l.length false) from T.get?_set_same _ _ _]
  simp only [Bool.and_self]
  rw [ti_ty_uint8]
/-- A string's bytes behind others. -/
theorem str_app (O : Own h μ ρ) (W : Pcs ρ0 ρ ns rs) (i : Nat) {a : Option Addr} {cap n : Nat} {l : List UInt8} (hi : rs[i]? = some (.sl a cap 1 (ofBytes l))) (s : Str) (hn : n = l.length) (hl : l.length + s.size ≤ 1000000000) {f : Value → AW → Prop}
    (H : ∀ h' μ' ρ' a' cap', Own h' μ' ρ' → Pcs ρ0 ρ' ns (rs.set i (.sl a' cap' 1 (ofBytes (l ++ s.data.toList)))) → f (.slice a' (l ++ s.data.toList).length cap') h') : oP (appendB P h ⟨[ty_sl_uint8, ty_string]⟩ [.slice a n cap, .string s]) f := by
  subst hn
  have hsize : s.size = s.data.toList.length := rfl
  rw [appB_str ti_ty_sl_uint8 ti_ty_uint8 ti_ty_string rfl]
  obtain ⟨c, hcn, hc⟩ := W.get i hi
  have M : OM h μ c a cap 1 (ofBytes l) := O.holds _ _ hc
  have hcap : l.length ≤ cap := by have := M.le; rw [ofB_len] at this; omega
  obtain ⟨a', cap', h', e', M', _, C⟩ := appendV_ok (P := P) ti_ty_uint8 rfl M (l := l.length) (n := s.size) (new := ofBytes s.data.toList) (by rw [ofB_len]; simp) (by rw [ofB_len, hsize]; simp) (one_bytes _) (by simp only; omega) (by omega) hcap
  refine oP_bind e' ?_
  rw [ofB_app] at M'
  have O3 := O.step (r := .sl a' cap' 1 (ofBytes (l ++ s.data.toList))) C M'
  have := H _ _ _ a' cap' O3 (W.set i hcn (.sl a' cap' 1 (ofBytes (l ++ s.data.toList))))
  rw [List.length_append, ← hsize] at this
  exact this
theorem spw_drop {x : List Str} {k : Nat} (hk : k < x.length) : sp ((x.drop k).map fun s => showL s.data.toList) = 32 :: (showL x[k].data.toList ++ sp ((x.drop (k + 1)).map fun s => showL s.data.toList)) := by
  rw [List.drop_eq_getElem_cons hk, List.map_cons]
  rfl
theorem fra2 {n1 n2 : Nat} {rs : List Res} (h1 : ρ n1 = none) (h2 : ρ n2 = none) {ρ' : Store} (W : Pcs ρ ρ' [n1, n2] rs) : Fra [] ρ ρ' := W.fra0 fun c hc => by
  simp only [List.mem_cons, List.not_mem_nil, or_false] at hc
  rcases hc with rfl | rfl <;> assumption
theorem rj_3 {x : List Str} {xa : Option Addr} {xc : Nat} (X : Vw ρ [] xa (strs x)) (hx : tot x ≤ 1000000) {n1 n2 : Nat} (h1 : ρ n1 = none) (h2 : ρ n2 = none) {j : Nat} {jl : List Value} (hj : jl[1]? = some (.slice xa x.length xc)) {fin : List UInt8} (hfin : fin.length ≤ 100000000)
    (next : ∀ {h : AW} {μ : Paint} {ρ' : Store} {a : Option Addr} {cap : Nat}, Own h μ ρ' → Pcs ρ ρ' [n1, n2] [.sl a cap 1 (ofBytes (fin ++ [32, 58])), .var j jl] →
      unitAt P f_brickyardref15_JobText 9 [1, 3, 5] [.pointer (some ⟨j, 0, none⟩), .slice a (fin ++ [32, 58]).length cap, .int .i64 0] h Q) :
    ∀ (d k : Nat) {h : AW} {μ : Paint} {ρ' : Store} {a : Option Addr} {cap m : Nat} {acc : List UInt8}, x.length - k = d → k ≤ x.length → Own h μ ρ' → Pcs ρ ρ' [n1, n2] [.sl a cap 1 (ofBytes acc), .var j jl] → m = acc.length → acc ++ sp ((x.drop k).map fun s => showL s.data.toList) = fin →
      unitAt P f_brickyardref15_JobText 3 [1, 3, 4] [.pointer (some ⟨j, 0, none⟩), .slice a m cap, .int .i64 (k : Int)] h Q := by
  have hxl := len_tot x
  intro d
  induction d with
  | zero =>
    intro k h μ ρ' a cap m acc hd hk O W hm ha
    subst hm
    rw [List.drop_eq_nil_of_le (by omega)] at ha
    have ha : acc = fin := by simpa [sp] using ha
    subst ha
    refine r_brickyardref15_JobText_3 ?_
    refine w_rd O W 1 (j := 1) rfl hj ?_
    simp only [oB_some, bC_true, bC_false, vInt_int, vBool_bool, vStr_string, vPtr_pointer, vSl_slice, vMap_map, vFun_func, vAgg_agg, vTup_tuple, vIfc_nil, vIfc_iface, lC_cons, lN_nil, aP_some, shO_none, shO_some, Option.isNone_none, Option.isNone_some, Bool.not_true, Bool.not_false]
    rw [geI (by omega)]
    simp only [oB_some, bC_true, bC_false, vInt_int, vBool_bool, vStr_string, vPtr_pointer, vSl_slice, vMap_map, vFun_func, vAgg_agg, vTup_tuple, vIfc_nil, vIfc_iface, lC_cons, lN_nil, aP_some, shO_none, shO_some, Option.isNone_none, Option.isNone_some, Bool.not_true, Bool.not_false]
    refine str_app O W 0 rfl ⟨#[32, 58]⟩ rfl (by show acc.length + 2 ≤ 1000000000; omega) fun h5 μ5 ρ5 a5 cap5 O5 W5 => ?_
    simp only [oB_some, bC_true, bC_false, vInt_int, vBool_bool, vStr_string, vPtr_pointer, vSl_slice, vMap_map, vFun_func, vAgg_agg, vTup_tuple, vIfc_nil, vIfc_iface, lC_cons, lN_nil, aP_some, shO_none, shO_some, Option.isNone_none, Option.isNone_some, Bool.not_true, Bool.not_false]
    exact next O5 W5
  | succ d ih =>
    intro k h μ ρ' a cap m acc hd hk O W hm ha
    subst hm
    have hl : k < x.length := by omega
    have hsz := str_tot (List.getElem_mem hl)
    rw [spw_drop hl] at ha
    have hlen : acc.length + 1 + (showL x[k].data.toList).length ≤ 100000000 := by
      have := congrArg List.length ha
      simp only [List.length_append, List.length_cons] at this
      omega
    refine r_brickyardref15_JobText_3 ?_
    refine w_rd O W 1 (j := 1) rfl hj ?_
    simp only [oB_some, bC_true, bC_false, vInt_int, vBool_bool, vStr_string, vPtr_pointer, vSl_slice, vMap_map, vFun_func, vAgg_agg, vTup_tuple, vIfc_nil, vIfc_iface, lC_cons, lN_nil, aP_some, shO_none, shO_some, Option.isNone_none, Option.isNone_some, Bool.not_true, Bool.not_false]
    rw [ltI hl]
    simp only [oB_some, bC_true, bC_false, vInt_int, vBool_bool, vStr_string, vPtr_pointer, vSl_slice, vMap_map, vFun_func, vAgg_agg, vTup_tuple, vIfc_nil, vIfc_iface, lC_cons, lN_nil, aP_some, shO_none, shO_some, Option.isNone_none, Option.isNone_some, Bool.not_true, Bool.not_false]
    refine byt_app O W 0 (e := [32]) rfl rfl (by simp; omega) fun h5 μ5 ρ5 a5 cap5 O5 W5 => ?_
    simp only [oB_some, bC_true, bC_false, vInt_int, vBool_bool, vStr_string, vPtr_pointer, vSl_slice, vMap_map, vFun_func, vAgg_agg, vTup_tuple, vIfc_nil, vIfc_iface, lC_cons, lN_nil, aP_some, shO_none, shO_some, Option.isNone_none, Option.isNone_some, Bool.not_true, Bool.not_false]
    refine w_rd O5 W5 1 (j := 1) rfl hj ?_
    simp only [oB_some, bC_true, bC_false, vInt_int, vBool_bool, vStr_string, vPtr_pointer, vSl_slice, vMap_map, vFun_func, vAgg_agg, vTup_tuple, vIfc_nil, vIfc_iface, lC_cons, lN_nil, aP_some, shO_none, shO_some, Option.isNone_none, Option.isNone_some, Bool.not_true, Bool.not_false]
    refine wd_at O5 (X.keep (fra2 h1 h2 W5)) rfl rfl hl ?_
    refine rshow_ok O5 (by omega) fun h6 μ6 ρ6 O6 F6 => ?_
    have W6 := W5.keep0 F6
    simp only [oB_some, bC_true, bC_false, vInt_int, vBool_bool, vStr_string, vPtr_pointer, vSl_slice, vMap_map, vFun_func, vAgg_agg, vTup_tuple, vIfc_nil, vIfc_iface, lC_cons, lN_nil, aP_some, shO_none, shO_some, Option.isNone_none, Option.isNone_some, Bool.not_true, Bool.not_false]
    refine str_app O6 W6 0 rfl ⟨⟨showL x[k].data.toList⟩⟩ (by simp) (by rw [show (⟨⟨showL x[k].data.toList⟩⟩ : ByteArray).size = (showL x[k].data.toList).length from rfl]; simp; omega) fun h7 μ7 ρ7 a7 cap7 O7 W7 => ?_
    simp only [oB_some, bC_true, bC_false, vInt_int, vBool_bool, vStr_string, vPtr_pointer, vSl_slice, vMap_map, vFun_func, vAgg_agg, vTup_tuple, vIfc_nil, vIfc_iface, lC_cons, lN_nil, aP_some, shO_none, shO_some, Option.isNone_none, Option.isNone_some, Bool.not_true, Bool.not_false]
    rw [wrapS (by omega)]
    refine ih (k + 1) (by omega) (by omega) O7 W7 rfl ?_
    rw [← ha]
    simp only [List.append_assoc]
    rfl
theorem rj_9 {x : List Str} {xa : Option Addr} {xc : Nat} (X : Vw ρ [] xa (strs x)) (hx : tot x ≤ 1000000) {n1 n2 : Nat} (h1 : ρ n1 = none) (h2 : ρ n2 = none) {j : Nat} {jl : List Value} (hj : jl[2]? = some (.slice xa x.length xc)) {fin : List UInt8} (hfin : fin.length ≤ 100000000)
    {ca : Option Addr} {cn cc : Nat} (hc : jl[3]? = some (.slice ca cn cc))
    (next : ∀ {h : AW} {μ : Paint} {ρ' : Store} {a : Option Addr} {cap : Nat}, Own h μ ρ' → Pcs ρ ρ' [n1, n2] [.sl a cap 1 (ofBytes (fin ++ [10])), .var j jl] →
      EvQ P f_brickyardref13_Lines [.slice ca cn cc] h fun v41 h42 => vTup v41 fun l43 => lC l43 fun v44 l45 => vSl v44 fun p46 m47 m48 => lC l45 fun v49 l50 => vInt .i64 v49 fun n51 => lN l50 (unitAt P f_brickyardref15_JobText 16 [3, 6, 7, 8] [.slice a (fin ++ [10]).length cap, .slice p46 m47 m48, .int .i64 n51, .int .i64 0] h42 Q)) :
    ∀ (d k : Nat) {h : AW} {μ : Paint} {ρ' : Store} {a : Option Addr} {cap m : Nat} {acc : List UInt8}, x.length - k = d → k ≤ x.length → Own h μ ρ' → Pcs ρ ρ' [n1, n2] [.sl a cap 1 (ofBytes acc), .var j jl] → m = acc.length → acc ++ sp ((x.drop k).map fun s => showL s.data.toList) = fin →
      unitAt P f_brickyardref15_JobText 9 [1, 3, 5] [.pointer (some ⟨j, 0, none⟩), .slice a m cap, .int .i64 (k : Int)] h Q := by
  have hxl := len_tot x
  intro d
  induction d with
  | zero =>
    intro k h μ ρ' a cap m acc hd hk O W hm ha
    subst hm
    rw [List.drop_eq_nil_of_le (by omega)] at ha
    have ha : acc = fin := by simpa [sp] using ha
    subst ha
    refine r_brickyardref15_JobText_9 ?_
    refine w_rd O W 1 (j := 2) rfl hj ?_
    simp only [oB_some, bC_true, bC_false, vInt_int, vBool_bool, vStr_string, vPtr_pointer, vSl_slice, vMap_map, vFun_func, vAgg_agg, vTup_tuple, vIfc_nil, vIfc_iface, lC_cons, lN_nil, aP_some, shO_none, shO_some, Option.isNone_none, Option.isNone_some, Bool.not_true, Bool.not_false]
    rw [geI (by omega)]
    simp only [oB_some, bC_true, bC_false, vInt_int, vBool_bool, vStr_string, vPtr_pointer, vSl_slice, vMap_map, vFun_func, vAgg_agg, vTup_tuple, vIfc_nil, vIfc_iface, lC_cons, lN_nil, aP_some, shO_none, shO_some, Option.isNone_none, Option.isNone_some, Bool.not_true, Bool.not_false]
    refine byt_app O W 0 (e := [10]) rfl rfl (by simp; omega) fun h5 μ5 ρ5 a5 cap5 O5 W5 => ?_
    simp only [oB_some, bC_true, bC_false, vInt_int, vBool_bool, vStr_string, vPtr_pointer, vSl_slice, vMap_map, vFun_func, vAgg_agg, vTup_tuple, vIfc_nil, vIfc_iface, lC_cons, lN_nil, aP_some, shO_none, shO_some, Option.isNone_none, Option.isNone_some, Bool.not_true, Bool.not_false]
    refine w_rd O5 W5 1 (j := 3) rfl hc ?_
    simp only [oB_some, bC_true, bC_false, vInt_int, vBool_bool, vStr_string, vPtr_pointer, vSl_slice, vMap_map, vFun_func, vAgg_agg, vTup_tuple, vIfc_nil, vIfc_iface, lC_cons, lN_nil, aP_some, shO_none, shO_some, Option.isNone_none, Option.isNone_some, Bool.not_true, Bool.not_false]
    have := next O5 W5
    rw [List.length_append] at this
    exact this
  | succ d ih =>
    intro k h μ ρ' a cap m acc hd hk O W hm ha
    subst hm
    have hl : k < x.length := by omega
    have hsz := str_tot (List.getElem_mem hl)
    rw [spw_drop hl] at ha
    have hlen : acc.length + 1 + (showL x[k].data.toList).length ≤ 100000000 := by
      have := congrArg List.length ha
      simp only [List.length_append, List.length_cons] at this
      omega
    refine r_brickyardref15_JobText_9 ?_
    refine w_rd O W 1 (j := 2) rfl hj ?_
    simp only [oB_some, bC_true, bC_false, vInt_int, vBool_bool, vStr_string, vPtr_pointer, vSl_slice, vMap_map, vFun_func, vAgg_agg, vTup_tuple, vIfc_nil, vIfc_iface, lC_cons, lN_nil, aP_some, shO_none, shO_some, Option.isNone_none, Option.isNone_some, Bool.not_true, Bool.not_false]
    rw [ltI hl]
    simp only [oB_some, bC_true, bC_false, vInt_int, vBool_bool, vStr_string, vPtr_pointer, vSl_slice, vMap_map, vFun_func, vAgg_agg, vTup_tuple, vIfc_nil, vIfc_iface, lC_cons, lN_nil, aP_some, shO_none, shO_some, Option.isNone_none, Option.isNone_some, Bool.not_true, Bool.not_false]
    refine byt_app O W 0 (e := [32]) rfl rfl (by simp; omega) fun h5 μ5 ρ5 a5 cap5 O5 W5 => ?_
    simp only [oB_some, bC_true, bC_false, vInt_int, vBool_bool, vStr_string, vPtr_pointer, vSl_slice, vMap_map, vFun_func, vAgg_agg, vTup_tuple, vIfc_nil, vIfc_iface, lC_cons, lN_nil, aP_some, shO_none, shO_some, Option.isNone_none, Option.isNone_some, Bool.not_true, Bool.not_false]
    refine w_rd O5 W5 1 (j := 2) rfl hj ?_
    simp only [oB_some, bC_true, bC_false, vInt_int, vBool_bool, vStr_string, vPtr_pointer, vSl_slice, vMap_map, vFun_func, vAgg_agg, vTup_tuple, vIfc_nil, vIfc_iface, lC_cons, lN_nil, aP_some, shO_none, shO_some, Option.isNone_none, Option.isNone_some, Bool.not_true, Bool.not_false]
    refine wd_at O5 (X.keep (fra2 h1 h2 W5)) rfl rfl hl ?_
    refine rshow_ok O5 (by omega) fun h6 μ6 ρ6 O6 F6 => ?_
    have W6 := W5.keep0 F6
    simp only [oB_some, bC_true, bC_false, vInt_int, vBool_bool, vStr_string, vPtr_pointer, vSl_slice, vMap_map, vFun_func, vAgg_agg, vTup_tuple, vIfc_nil, vIfc_iface, lC_cons, lN_nil, aP_some, shO_none, shO_some, Option.isNone_none, Option.isNone_some, Bool.not_true, Bool.not_false]
    refine str_app O6 W6 0 rfl ⟨⟨showL x[k].data.toList⟩⟩ (by simp) (by rw [show (⟨⟨showL x[k].data.toList⟩⟩ : ByteArray).size = (showL x[k].data.toList).length from rfl]; simp; omega) fun h7 μ7 ρ7 a7 cap7 O7 W7 => ?_
    simp only [oB_some, bC_true, bC_false, vInt_int, vBool_bool, vStr_string, vPtr_pointer, vSl_slice, vMap_map, vFun_func, vAgg_agg, vTup_tuple, vIfc_nil, vIfc_iface, lC_cons, lN_nil, aP_some, shO_none, shO_some, Option.isNone_none, Option.isNone_some, Bool.not_true, Bool.not_false]
    rw [wrapS (by omega)]
    refine ih (k + 1) (by omega) (by omega) O7 W7 rfl ?_
    rw [← ha]
    simp only [List.append_assoc]
    rfl
/-- A line is written. -/
theorem rj_20 {ps : List Wds} {a : Option Addr} {cap n1 n2 : Nat} {rr : Res} (X : Lns ρ ps a) (B : Txt ps) (h1 : ρ n1 = none) (h2 : ρ n2 = none) {i : Nat} (hi : i < ps.length) {fin : List UInt8} (hfin : fin.length ≤ 500000000)
    (next : ∀ {h : AW} {μ : Paint} {ρ' : Store} {acc : List UInt8} {oa : Option Addr} {oc : Nat}, Own h μ ρ' → Pcs ρ ρ' [n1, n2] [.sl oa oc 1 (ofBytes acc), rr] → acc ++ tabL ((ps.drop (i + 1)).map Wds.x) = fin →
      unitAt P f_brickyardref15_JobText 16 [3, 6, 7, 8] [.slice oa acc.length oc, .slice a ps.length cap, .int .i64 0, .int .i64 ((i + 1 : Nat) : Int)] h Q) :
    ∀ (d k : Nat) {h : AW} {μ : Paint} {ρ' : Store} {acc : List UInt8} {oa : Option Addr} {oc m : Nat}, ps[i].x.length - k = d → k ≤ ps[i].x.length → Own h μ ρ' → Pcs ρ ρ' [n1, n2] [.sl oa oc 1 (ofBytes acc), rr] → m = acc.length → acc ++ (jn (decide (k = 0)) (ps[i].x.drop k) ++ [10] ++ tabL ((ps.drop (i + 1)).map Wds.x)) = fin →
      unitAt P f_brickyardref15_JobText 20 [3, 6, 7, 8, 9] [.slice oa m oc, .slice a ps.length cap, .int .i64 0, .int .i64 (i : Int), .int .i64 (k : Int)] h Q := by
  have hil := B.len
  have hwl := B.wds _ (List.getElem_mem hi)
  intro d
  induction d with
  | zero =>
    intro k h μ ρ' acc oa oc m hd hk O W hm ha
    subst hm
    have hacc : acc.length ≤ 500000000 := by
      have := congrArg List.length ha
      simp only [List.length_append] at this
      omega
    rw [List.drop_eq_nil_of_le (by omega), jn, List.nil_append, ← List.append_assoc] at ha
    refine r_brickyardref15_JobText_20 ?_
    refine ln_at O (X.keep (fra2 h1 h2 W)) rfl rfl hi fun _ => ?_
    rw [show decide ((k : Int) < (ps[i].x.length : Int)) = false from decide_eq_false (by omega)]
    simp only [oB_some, bC_true, bC_false, vInt_int, vBool_bool, vStr_string, vPtr_pointer, vSl_slice, vMap_map, vFun_func, vAgg_agg, vTup_tuple, vIfc_nil, vIfc_iface, lC_cons, lN_nil, aP_some, shO_none, shO_some, Option.isNone_none, Option.isNone_some, Bool.not_true, Bool.not_false]
    refine byt_app O W 0 (e := [10]) rfl rfl (by simp; omega) fun h5 μ5 ρ5 a5 cap5 O5 W5 => ?_
    simp only [oB_some, bC_true, bC_false, vInt_int, vBool_bool, vStr_string, vPtr_pointer, vSl_slice, vMap_map, vFun_func, vAgg_agg, vTup_tuple, vIfc_nil, vIfc_iface, lC_cons, lN_nil, aP_some, shO_none, shO_some, Option.isNone_none, Option.isNone_some, Bool.not_true, Bool.not_false]
    rw [wrapS (by omega), ← List.length_append]
    exact next O5 W5 ha
  | succ d ih =>
    intro k h μ ρ' acc oa oc m hd hk O W hm ha
    subst hm
    have hk1 : k < ps[i].x.length := by omega
    have hacc : acc.length ≤ 500000000 := by
      have := congrArg List.length ha
      simp only [List.length_append] at this
      omega
    have hsz := B.str _ (List.getElem_mem hi) _ (List.getElem_mem hk1)
    have hsh := show_len (ps[i].x[k]).data.toList
    have hs0 : (ps[i].x[k]).data.toList.length = (ps[i].x[k]).size := rfl
    have e0 : decide (k + 1 = 0) = false := by simp
    have u24 : ∀ {h : AW} {μ : Paint} {ρ' : Store} {acc : List UInt8} {oa : Option Addr} {oc m : Nat}, Own h μ ρ' → Pcs ρ ρ' [n1, n2] [.sl oa oc 1 (ofBytes acc), rr] → m = acc.length → acc ++ (showL (ps[i].x[k]).data.toList ++ jn false (ps[i].x.drop (k + 1)) ++ [10] ++ tabL ((ps.drop (i + 1)).map Wds.x)) = fin →
        unitAt P f_brickyardref15_JobText 24 [3, 6, 7, 8, 9] [.slice oa m oc, .slice a ps.length cap, .int .i64 0, .int .i64 (i : Int), .int .i64 (k : Int)] h Q := fun {h μ ρ' acc oa oc m} O W hm ha => by
      subst hm
      have hlen : acc.length + (showL (ps[i].x[k]).data.toList).length ≤ 500000000 := by
        have := congrArg List.length ha
        simp only [List.length_append] at this
        omega
      refine r_brickyardref15_JobText_24 ?_
      refine ln_at O (X.keep (fra2 h1 h2 W)) rfl rfl hi fun v => ?_
      refine wd_at O v rfl rfl hk1 ?_
      refine rshow_ok O (by omega) fun h6 μ6 ρ6 O6 F6 => ?_
      have W6 := W.keep0 F6
      simp only [oB_some, bC_true, bC_false, vInt_int, vBool_bool, vStr_string, vPtr_pointer, vSl_slice, vMap_map, vFun_func, vAgg_agg, vTup_tuple, vIfc_nil, vIfc_iface, lC_cons, lN_nil, aP_some, shO_none, shO_some, Option.isNone_none, Option.isNone_some, Bool.not_true, Bool.not_false]
      refine str_app O6 W6 0 rfl ⟨⟨showL (ps[i].x[k]).data.toList⟩⟩ rfl (by rw [show (⟨⟨showL (ps[i].x[k]).data.toList⟩⟩ : ByteArray).size = (showL (ps[i].x[k]).data.toList).length from rfl]; omega) fun h7 μ7 ρ7 a7 cap7 O7 W7 => ?_
      simp only [oB_some, bC_true, bC_false, vInt_int, vBool_bool, vStr_string, vPtr_pointer, vSl_slice, vMap_map, vFun_func, vAgg_agg, vTup_tuple, vIfc_nil, vIfc_iface, lC_cons, lN_nil, aP_some, shO_none, shO_some, Option.isNone_none, Option.isNone_some, Bool.not_true, Bool.not_false]
      rw [wrapS (by omega)]
      refine ih (k + 1) (by omega) (by omega) O7 W7 rfl ?_
      rw [e0, ← ha]
      simp only [List.append_assoc]
    rw [jn_drop hk1] at ha
    refine r_brickyardref15_JobText_20 ?_
    refine ln_at O (X.keep (fra2 h1 h2 W)) rfl rfl hi fun _ => ?_
    rw [show decide ((k : Int) < (ps[i].x.length : Int)) = true from decide_eq_true (by omega)]
    simp only [oB_some, bC_true, bC_false, vInt_int, vBool_bool, vStr_string, vPtr_pointer, vSl_slice, vMap_map, vFun_func, vAgg_agg, vTup_tuple, vIfc_nil, vIfc_iface, lC_cons, lN_nil, aP_some, shO_none, shO_some, Option.isNone_none, Option.isNone_some, Bool.not_true, Bool.not_false]
    refine bC_iff (fun e => ?_) (fun e => ?_)
    · have e : k ≠ 0 := by have := of_decide_eq_true e; omega
      rw [if_neg e] at ha
      refine byt_app O W 0 (e := [32]) rfl rfl (by simp; omega) fun h5 μ5 ρ5 a5 cap5 O5 W5 => ?_
      simp only [oB_some, bC_true, bC_false, vInt_int, vBool_bool, vStr_string, vPtr_pointer, vSl_slice, vMap_map, vFun_func, vAgg_agg, vTup_tuple, vIfc_nil, vIfc_iface, lC_cons, lN_nil, aP_some, shO_none, shO_some, Option.isNone_none, Option.isNone_some, Bool.not_true, Bool.not_false]
      exact u24 O5 W5 (by simp) (by rw [← ha]; simp only [List.append_assoc])
    · have e : k = 0 := by have := of_decide_eq_false e; omega
      rw [if_pos e, List.nil_append] at ha
      exact u24 O W rfl ha
theorem rj_16 {ps : List Wds} {a : Option Addr} {cap n1 n2 : Nat} {rr : Res} {z : Int} (X : Lns ρ ps a) (B : Txt ps) (h1 : ρ n1 = none) (h2 : ρ n2 = none) (hz : ps ≠ [] → z = 0) {fin : List UInt8} (hfin : fin.length ≤ 500000000) (hq : RdQ Q ρ (.string ⟨⟨fin⟩⟩)) :
    ∀ (d i : Nat) {h : AW} {μ : Paint} {ρ' : Store} {acc : List UInt8} {oa : Option Addr} {oc : Nat}, ps.length - i = d → i ≤ ps.length → Own h μ ρ' → Pcs ρ ρ' [n1, n2] [.sl oa oc 1 (ofBytes acc), rr] → acc ++ tabL ((ps.drop i).map Wds.x) = fin →
      unitAt P f_brickyardref15_JobText 16 [3, 6, 7, 8] [.slice oa acc.length oc, .slice a ps.length cap, .int .i64 z, .int .i64 (i : Int)] h Q := by
  intro d
  induction d with
  | zero =>
    intro i h μ ρ' acc oa oc hd hi O W ha
    rw [List.drop_eq_nil_of_le (by omega)] at ha
    have ha : acc = fin := by simpa [tabL] using ha
    refine r_brickyardref15_JobText_16 ?_
    rw [geI (by omega)]
    simp only [oB_some, bC_true, bC_false, vInt_int, vBool_bool, vStr_string, vPtr_pointer, vSl_slice, vMap_map, vFun_func, vAgg_agg, vTup_tuple, vIfc_nil, vIfc_iface, lC_cons, lN_nil, aP_some, shO_none, shO_some, Option.isNone_none, Option.isNone_some, Bool.not_true, Bool.not_false]
    refine oB_bind (w_bytes O W 0 rfl) ?_
    rw [ha]
    exact hq _ _ _ O (fra2 h1 h2 W)
  | succ d ih =>
    intro i h μ ρ' acc oa oc hd hi O W ha
    have hl : i < ps.length := by omega
    have hz0 := hz (fun e => by rw [e] at hl; cases hl)
    subst hz0
    have e : tabL ((ps.drop i).map Wds.x) = 9 :: (jn true ps[i].x ++ [10]) ++ tabL ((ps.drop (i + 1)).map Wds.x) := by
      rw [List.drop_eq_getElem_cons hl, List.map_cons]
      rfl
    rw [e] at ha
    have hacc : acc.length ≤ 500000000 := by
      have := congrArg List.length ha
      simp only [List.length_append] at this
      omega
    refine r_brickyardref15_JobText_16 ?_
    rw [ltI hl, show ((0 : Int) == 0) = true from rfl]
    simp only [oB_some, bC_true, bC_false, vInt_int, vBool_bool, vStr_string, vPtr_pointer, vSl_slice, vMap_map, vFun_func, vAgg_agg, vTup_tuple, vIfc_nil, vIfc_iface, lC_cons, lN_nil, aP_some, shO_none, shO_some, Option.isNone_none, Option.isNone_some, Bool.not_true, Bool.not_false]
    refine byt_app O W 0 (e := [9]) rfl rfl (by simp; omega) fun h5 μ5 ρ5 a5 cap5 O5 W5 => ?_
    simp only [oB_some, bC_true, bC_false, vInt_int, vBool_bool, vStr_string, vPtr_pointer, vSl_slice, vMap_map, vFun_func, vAgg_agg, vTup_tuple, vIfc_nil, vIfc_iface, lC_cons, lN_nil, aP_some, shO_none, shO_some, Option.isNone_none, Option.isNone_some, Bool.not_true, Bool.not_false]
    refine rj_20 X B h1 h2 hl (fin := fin) hfin (fun O' W' ha' => ih (i + 1) (by omega) (by omega) O' W' ha') _ 0 rfl (Nat.zero_le _) O5 W5 (by simp) ?_
    rw [decide_eq_true rfl, List.drop_zero, ← ha]
    simp only [List.append_assoc, List.cons_append, List.nil_append]
/-- A job's text, of the document. -/
theorem rjobText_ok (O : Own h μ ρ) {ts ds : List Str} {f : F} {b a c : Option Addr} {s : Str} {cb ca cc : Nat} (J : JobAt ρ ts ds f b a c) (ht : tot ts ≤ 131071) (hd : tot ds ≤ 131071) (hfl : f.len ≤ 140737488355328) (hz : f.size ≤ 1000000000) (hs : Slim f) (hf : full f ≤ 262143)
    (hq : RdQ Q ρ (.string ⟨⟨jobL ts ds (linesM f)⟩⟩)) : EvQ P f_brickyardref15_JobText [.agg ⟨[.string s, .slice b ts.length cb, .slice a ds.length ca, .slice c f.len cc]⟩] h Q := by
  refine r_brickyardref15_JobText ?_
  obtain ⟨μ1, ρ1, c1, O1, W1, hc1⟩ := w_new O p00 [.string s, .slice b ts.length cb, .slice a ds.length ca, .slice c f.len cc]
  obtain ⟨μ2, ρ2, c2, O2, W2, hc2⟩ := w_block O1 W1 (ofBytes [114, 117, 108, 101]) (n := 4) (sz := 1) rfl rfl
  refine oP_bind (conv_same (by decide)) ?_
  simp only [oB_some, bC_true, bC_false, vInt_int, vBool_bool, vStr_string, vPtr_pointer, vSl_slice, vMap_map, vFun_func, vAgg_agg, vTup_tuple, vIfc_nil, vIfc_iface, lC_cons, lN_nil, aP_some, shO_none, shO_some, Option.isNone_none, Option.isNone_some, Bool.not_true, Bool.not_false]
  have spl : ∀ x : List Str, (sp (x.map fun s => showL s.data.toList)).length ≤ 3 * tot x := fun x => by
    induction x with
    | nil => exact Nat.zero_le _
    | cons v x ih =>
      have e : sp ((v :: x).map fun s => showL s.data.toList) = 32 :: showL v.data.toList ++ sp (x.map fun s => showL s.data.toList) := rfl
      have := show_le v.data.toList
      have hv : v.data.toList.length = v.size := rfl
      rw [e, tot_cons, List.length_append, List.length_cons]
      omega
  have g1 := spl ts
  have g2 := spl ds
  have pjl : (prL (linesM f)).length ≤ 100000000 := by
    unfold linesM
    split
    · have h' : (f.lines.map fun l => 1 + (l.map fun s => 1 + s.size).sum).sum ≤ 10485720 := by
        have : 40 * full f ≤ 10485720 := by omega
        exact Nat.le_trans (lines_sum f) this
      exact Nat.le_trans (prL_len _) (Nat.le_trans (Nat.mul_le_mul_left 3 h') (by decide))
    · exact Nat.zero_le _
  have htl := tab_le (linesM f)
  refine rj_3 (fin := [114, 117, 108, 101] ++ sp (ts.map fun s => showL s.data.toList)) J.ts (by omega) hc2 hc1 rfl (by simp only [List.length_append, List.length_cons, List.length_nil]; omega) (fun {h3 μ3 ρ3 a3 cap3} O3 W3 => ?_) _ 0 rfl (Nat.zero_le _) O2 W2 rfl rfl
  refine rj_9 (fin := ([114, 117, 108, 101] ++ sp (ts.map fun s => showL s.data.toList)) ++ [32, 58] ++ sp (ds.map fun s => showL s.data.toList)) J.ds (by omega) hc2 hc1 rfl (by simp only [List.length_append, List.length_cons, List.length_nil]; omega) (ca := c) (cn := f.len) (cc := cc) rfl (fun {h4 μ4 ρ4 a4 cap4} O4 W4 => ?_) _ 0 rfl (Nat.zero_le _) O3 W3 rfl rfl
  have F4 := fra2 hc2 hc1 W4
  have hjob : (([114, 117, 108, 101] ++ sp (ts.map fun s => showL s.data.toList)) ++ [32, 58] ++ sp (ds.map fun s => showL s.data.toList) ++ [10]) ++ tabL (linesM f) = jobL ts ds (linesM f) := by
    unfold jobL hdrW
    have : ∀ x y : List (List UInt8), sp (x ++ y) = sp x ++ sp y := fun x y => List.flatMap_append
    rw [this]
    have : sp ([58] :: ds.map fun s => showL s.data.toList) = [32, 58] ++ sp (ds.map fun s => showL s.data.toList) := rfl
    rw [this]
    simp only [List.append_assoc, List.cons_append, List.nil_append]
  refine rlinesB_ok O4 (J.code.keep F4) hfl hz hs (fun e => ?_) (fun e h5 μ5 ρ5 co cm oa oc ps vs O5 V5 hco hcm B e1 => ?_)
  · intro h5 μ5 ρ5 O5 F5
    have W5 := W4.keep0 F5
    simp only [oB_some, bC_true, bC_false, vInt_int, vBool_bool, vStr_string, vPtr_pointer, vSl_slice, vMap_map, vFun_func, vAgg_agg, vTup_tuple, vIfc_nil, vIfc_iface, lC_cons, lN_nil, aP_some, shO_none, shO_some, Option.isNone_none, Option.isNone_some, Bool.not_true, Bool.not_false]
    have e2 : linesM f = [] := by unfold linesM; rw [e]; rfl
    have B : Txt [] := txt_lines (f := f) (by rw [e2]; rfl) hf
    exact rj_16 (ps := []) (ρ := ρ) (z := 2) lns_none B hc2 hc1 (fun x => absurd rfl x) (fin := jobL ts ds (linesM f)) (by rw [← hjob]; simp only [List.length_append, List.length_cons, List.length_nil]; omega) hq _ 0 rfl (Nat.zero_le _) O5 W5 (by rw [← hjob, e2]; rfl)
  · have F5 : Fra [] ρ4 ρ5 := V5.fra0 fun c hc => by
      simp only [List.mem_cons, List.not_mem_nil, or_false] at hc
      rcases hc with rfl | rfl <;> assumption
    have W5 := W4.keep0 F5
    have F6 := fra2 hc2 hc1 W5
    have a2 := W4.at_ 0 c2 _ rfl rfl
    have a1 := W4.at_ 1 c1 _ rfl rfl
    let ρb : Store := fun n => if n = c2 ∨ n = c1 then none else ρ5 n
    have sub : ∀ d r, ρb d = some r → ρ5 d = some r := fun d r hd => by
      simp only [ρb] at hd
      split at hd
      · cases hd
      · exact hd
    have Ob : Own h5 μ5 ρb := O5.mono sub
    have nco : ¬ (co = c2 ∨ co = c1) := by
      rintro (rfl | rfl)
      · rw [hco] at a2; cases a2
      · rw [hco] at a1; cases a1
    have ncm : ¬ (cm = c2 ∨ cm = c1) := by
      rintro (rfl | rfl)
      · rw [hcm] at a2; cases a2
      · rw [hcm] at a1; cases a1
    have X : Lns ρb ps oa := B.lns Ob (co := co) (cm := cm) (oc := oc) (by simp only [ρb]; rw [if_neg nco]; exact V5.at_ 0 _ _ rfl rfl) (by simp only [ρb]; rw [if_neg ncm]; exact V5.at_ 1 _ _ rfl rfl)
    have Wb : Pcs ρb ρ5 [c2, c1] _ := ⟨W5.nodup, W5.len, W5.at_, fun c r _ hc => sub c r hc⟩
    have e2 : linesM f = f.lines := by unfold linesM; rw [e]; rfl
    have B2 := txt_lines (f := f) (e1.trans e2.symm) hf
    have Fb : Fra [] ρ ρb := fun c r hn hc => by
      simp only [ρb]
      rw [if_neg]
      · exact F6 c r hn hc
      · rintro (rfl | rfl)
        · rw [hc2] at hc; cases hc
        · rw [hc1] at hc; cases hc
    simp only [oB_some, bC_true, bC_false, vInt_int, vBool_bool, vStr_string, vPtr_pointer, vSl_slice, vMap_map, vFun_func, vAgg_agg, vTup_tuple, vIfc_nil, vIfc_iface, lC_cons, lN_nil, aP_some, shO_none, shO_some, Option.isNone_none, Option.isNone_some, Bool.not_true, Bool.not_false]
    exact rj_16 (ρ := ρb) (z := 0) X B2 (by simp [ρb]) (by simp [ρb]) (fun _ => rfl) (fin := jobL ts ds (linesM f)) (by rw [← hjob]; simp only [List.length_append, List.length_cons, List.length_nil]; omega) (hq.keep Fb) _ 0 rfl (Nat.zero_le _) O5 Wb (by rw [List.drop_zero, e1, ← e2, hjob])
end Go.Proofs.YtamoepfiodgbbaaGreatDoor
end

section
/- The law's own test, run apart: it comes to true. -/
namespace Go.Proofs.YtamoepfiodgbbaaGreatDoor
open Go.Abs
set_option maxRecDepth 100000
variable {h : AW} {Q : Value → AW → Prop}
theorem works15_ok (hq : Q (.bool true) h) : EvQ P f_brickyardlaw15_works [] h Q := own_evq (n := 400) (by kernel_rfl) (by kernel_rfl) hq
end Go.Proofs.YtamoepfiodgbbaaGreatDoor
end

section
/- A job has a text, and jobs that may be have one text just if they are the same: the law's walk. -/
namespace Go.Proofs.YtamoepfiodgbbaaGreatDoor
open Go.Abs Go.Abs.Fo
set_option maxRecDepth 100000
attribute [local irreducible] unitAt EvQ
variable {h : AW} {μ : Paint} {ρ0 ρ : Store} {Q : Value → AW → Prop} {ns : List Nat} {rs : List Res}
/-- One text just if they are the same. -/
theorem texts_key {ts ds ts' ds' : List Str} {f g : F} (h1 : ∀ s, s ∈ ts ∨ s ∈ ds → PathOk s) (h2 : ∀ s, s ∈ ts' ∨ s ∈ ds' → PathOk s) (hf : f.may = true) (hg : g.may = true) :
    bEq (⟨⟨jobL ts ds (linesM f)⟩⟩ : ByteArray) ⟨⟨jobL ts' ds' (linesM g)⟩⟩ = (decide (ts = ts') && (decide (ds = ds') && F.eqB f g)) := by
  have e1 : linesM f = f.lines := by unfold linesM; rw [hf]; rfl
  have e2 : linesM g = g.lines := by unfold linesM; rw [hg]; rfl
  rw [e1, e2]
  cases hb : (decide (ts = ts') && (decide (ds = ds') && F.eqB f g)) with
  | true =>
    simp only [Bool.and_eq_true, decide_eq_true_eq] at hb
    obtain ⟨rfl, rfl, hb⟩ := hb
    rw [F.eqB_iff.1 hb]
    exact bEq_iff.2 rfl
  | false =>
    cases hc : bEq (⟨⟨jobL ts ds f.lines⟩⟩ : ByteArray) ⟨⟨jobL ts' ds' g.lines⟩⟩ with
    | false => rfl
    | true =>
      have hc := bEq_iff.1 hc
      have hc : jobL ts ds f.lines = jobL ts' ds' g.lines := by simpa using hc
      obtain ⟨x, y, z⟩ := job_inj h1 h2 hc
      rw [x, y, lines_inj hf hg z, F.eqB_self] at hb
      simp at hb
theorem elabTexts_ok (O : Own h μ ρ) (T : Vw ρ [] (some ⟨5, 0, none⟩) pow10) {ts ds ts' ds' : List Str} {f g : F} {b a c b' a' c' : Option Addr} {s s' : Str} {cb ca cc cb' ca' cc' : Nat} (J : JobAt ρ ts ds f b a c) (J' : JobAt ρ ts' ds' g b' a' c') (hf : JobFits ts ds f) (hg : JobFits ts' ds' g)
    (hq : ∀ h', Q (.bool true) h') : EvQ P f_brickyardlaw15_ElabTexts [.agg ⟨[.string s, .slice b ts.length cb, .slice a ds.length ca, .slice c f.len cc]⟩, .agg ⟨[.string s', .slice b' ts'.length cb', .slice a' ds'.length ca', .slice c' g.len cc']⟩] h Q := by
  refine r_brickyardlaw15_ElabTexts ?_
  obtain ⟨μ1, ρ1, c1, O1, W1, hc1⟩ := w_new O p00 [.string s, .slice b ts.length cb, .slice a ds.length ca, .slice c f.len cc]
  obtain ⟨μ2, ρ2, c2, O2, W2, hc2⟩ := w_new O1 W1 [.string s', .slice b' ts'.length cb', .slice a' ds'.length ca', .slice c' g.len cc']
  have F2 := fra2 hc2 hc1 W2
  refine works15_ok ?_
  simp only [oB_some, bC_true, bC_false, vInt_int, vBool_bool, vStr_string, vPtr_pointer, vSl_slice, vMap_map, vFun_func, vAgg_agg, vTup_tuple, vIfc_nil, vIfc_iface, lC_cons, lN_nil, aP_some, shO_none, shO_some, Option.isNone_none, Option.isNone_some, Bool.not_true, Bool.not_false]
  refine w_rd O2 W2 1 (j := 0) rfl rfl ?_
  simp only [oB_some, bC_true, bC_false, vInt_int, vBool_bool, vStr_string, vPtr_pointer, vSl_slice, vMap_map, vFun_func, vAgg_agg, vTup_tuple, vIfc_nil, vIfc_iface, lC_cons, lN_nil, aP_some, shO_none, shO_some, Option.isNone_none, Option.isNone_some, Bool.not_true, Bool.not_false]
  refine w_rd O2 W2 1 (j := 1) rfl rfl ?_
  simp only [oB_some, bC_true, bC_false, vInt_int, vBool_bool, vStr_string, vPtr_pointer, vSl_slice, vMap_map, vFun_func, vAgg_agg, vTup_tuple, vIfc_nil, vIfc_iface, lC_cons, lN_nil, aP_some, shO_none, shO_some, Option.isNone_none, Option.isNone_some, Bool.not_true, Bool.not_false]
  refine w_rd O2 W2 1 (j := 2) rfl rfl ?_
  simp only [oB_some, bC_true, bC_false, vInt_int, vBool_bool, vStr_string, vPtr_pointer, vSl_slice, vMap_map, vFun_func, vAgg_agg, vTup_tuple, vIfc_nil, vIfc_iface, lC_cons, lN_nil, aP_some, shO_none, shO_some, Option.isNone_none, Option.isNone_some, Bool.not_true, Bool.not_false]
  refine w_rd O2 W2 1 (j := 3) rfl rfl ?_
  simp only [oB_some, bC_true, bC_false, vInt_int, vBool_bool, vStr_string, vPtr_pointer, vSl_slice, vMap_map, vFun_func, vAgg_agg, vTup_tuple, vIfc_nil, vIfc_iface, lC_cons, lN_nil, aP_some, shO_none, shO_some, Option.isNone_none, Option.isNone_some, Bool.not_true, Bool.not_false]
  refine big_ok O2 (J.keep F2) hf fun h3 μ3 ρ3 r3 O3 G3 hr3 => ?_
  simp only [oB_some, bC_true, bC_false, vInt_int, vBool_bool, vStr_string, vPtr_pointer, vSl_slice, vMap_map, vFun_func, vAgg_agg, vTup_tuple, vIfc_nil, vIfc_iface, lC_cons, lN_nil, aP_some, shO_none, shO_some, Option.isNone_none, Option.isNone_some, Bool.not_true, Bool.not_false]
  refine bC_iff (fun _ => hq _) (fun e => ?_)
  obtain ⟨m1, m2, m3⟩ := hr3 e
  have W3 := W2.keep0 G3
  have F3 := F2.trans G3
  refine w_rd O3 W3 0 (j := 0) rfl rfl ?_
  simp only [oB_some, bC_true, bC_false, vInt_int, vBool_bool, vStr_string, vPtr_pointer, vSl_slice, vMap_map, vFun_func, vAgg_agg, vTup_tuple, vIfc_nil, vIfc_iface, lC_cons, lN_nil, aP_some, shO_none, shO_some, Option.isNone_none, Option.isNone_some, Bool.not_true, Bool.not_false]
  refine w_rd O3 W3 0 (j := 1) rfl rfl ?_
  simp only [oB_some, bC_true, bC_false, vInt_int, vBool_bool, vStr_string, vPtr_pointer, vSl_slice, vMap_map, vFun_func, vAgg_agg, vTup_tuple, vIfc_nil, vIfc_iface, lC_cons, lN_nil, aP_some, shO_none, shO_some, Option.isNone_none, Option.isNone_some, Bool.not_true, Bool.not_false]
  refine w_rd O3 W3 0 (j := 2) rfl rfl ?_
  simp only [oB_some, bC_true, bC_false, vInt_int, vBool_bool, vStr_string, vPtr_pointer, vSl_slice, vMap_map, vFun_func, vAgg_agg, vTup_tuple, vIfc_nil, vIfc_iface, lC_cons, lN_nil, aP_some, shO_none, shO_some, Option.isNone_none, Option.isNone_some, Bool.not_true, Bool.not_false]
  refine w_rd O3 W3 0 (j := 3) rfl rfl ?_
  simp only [oB_some, bC_true, bC_false, vInt_int, vBool_bool, vStr_string, vPtr_pointer, vSl_slice, vMap_map, vFun_func, vAgg_agg, vTup_tuple, vIfc_nil, vIfc_iface, lC_cons, lN_nil, aP_some, shO_none, shO_some, Option.isNone_none, Option.isNone_some, Bool.not_true, Bool.not_false]
  refine big_ok O3 (J'.keep F3) hg fun h4 μ4 ρ4 r4 O4 G4 hr4 => ?_
  simp only [oB_some, bC_true, bC_false, vInt_int, vBool_bool, vStr_string, vPtr_pointer, vSl_slice, vMap_map, vFun_func, vAgg_agg, vTup_tuple, vIfc_nil, vIfc_iface, lC_cons, lN_nil, aP_some, shO_none, shO_some, Option.isNone_none, Option.isNone_some, Bool.not_true, Bool.not_false]
  refine bC_iff (fun _ => hq _) (fun e => ?_)
  obtain ⟨n1, n2, n3⟩ := hr4 e
  have W4 := W3.keep0 G4
  have F4 := F3.trans G4
  have hs1 : Slim f := slim_full (by omega)
  have hs2 : Slim g := slim_full (by omega)
  have hz1 : f.size ≤ 1000000000 := by have := F.size_full f; omega
  have hz2 : g.size ≤ 1000000000 := by have := F.size_full g; omega
  have hl1 : f.len ≤ 140737488355328 := by have := hf.fl; omega
  have hl2 : g.len ≤ 140737488355328 := by have := hg.fl; omega
  have hts : ts.length ≤ 131071 := Nat.le_trans (len_tot ts) m2
  have hds : ds.length ≤ 131071 := Nat.le_trans (len_tot ds) m3
  have hts' : ts'.length ≤ 131071 := Nat.le_trans (len_tot ts') n2
  have hds' : ds'.length ≤ 131071 := Nat.le_trans (len_tot ds') n3
  refine w_rd O4 W4 1 (j := 0) rfl rfl ?_
  simp only [oB_some, bC_true, bC_false, vInt_int, vBool_bool, vStr_string, vPtr_pointer, vSl_slice, vMap_map, vFun_func, vAgg_agg, vTup_tuple, vIfc_nil, vIfc_iface, lC_cons, lN_nil, aP_some, shO_none, shO_some, Option.isNone_none, Option.isNone_some, Bool.not_true, Bool.not_false]
  refine w_rd O4 W4 1 (j := 1) rfl rfl ?_
  simp only [oB_some, bC_true, bC_false, vInt_int, vBool_bool, vStr_string, vPtr_pointer, vSl_slice, vMap_map, vFun_func, vAgg_agg, vTup_tuple, vIfc_nil, vIfc_iface, lC_cons, lN_nil, aP_some, shO_none, shO_some, Option.isNone_none, Option.isNone_some, Bool.not_true, Bool.not_false]
  refine w_rd O4 W4 1 (j := 2) rfl rfl ?_
  simp only [oB_some, bC_true, bC_false, vInt_int, vBool_bool, vStr_string, vPtr_pointer, vSl_slice, vMap_map, vFun_func, vAgg_agg, vTup_tuple, vIfc_nil, vIfc_iface, lC_cons, lN_nil, aP_some, shO_none, shO_some, Option.isNone_none, Option.isNone_some, Bool.not_true, Bool.not_false]
  refine w_rd O4 W4 1 (j := 3) rfl rfl ?_
  simp only [oB_some, bC_true, bC_false, vInt_int, vBool_bool, vStr_string, vPtr_pointer, vSl_slice, vMap_map, vFun_func, vAgg_agg, vTup_tuple, vIfc_nil, vIfc_iface, lC_cons, lN_nil, aP_some, shO_none, shO_some, Option.isNone_none, Option.isNone_some, Bool.not_true, Bool.not_false]
  refine jobText_ok O4 (T.keep F4) (J.keep F4) m2 m3 hl1 hz1 hs1 (by omega) fun h5 μ5 ρ5 O5 G5 => ?_
  have W5 := W4.keep0 G5
  have F5 := F4.trans G5
  simp only [oB_some, bC_true, bC_false, vInt_int, vBool_bool, vStr_string, vPtr_pointer, vSl_slice, vMap_map, vFun_func, vAgg_agg, vTup_tuple, vIfc_nil, vIfc_iface, lC_cons, lN_nil, aP_some, shO_none, shO_some, Option.isNone_none, Option.isNone_some, Bool.not_true, Bool.not_false]
  refine w_rd O5 W5 0 (j := 0) rfl rfl ?_
  simp only [oB_some, bC_true, bC_false, vInt_int, vBool_bool, vStr_string, vPtr_pointer, vSl_slice, vMap_map, vFun_func, vAgg_agg, vTup_tuple, vIfc_nil, vIfc_iface, lC_cons, lN_nil, aP_some, shO_none, shO_some, Option.isNone_none, Option.isNone_some, Bool.not_true, Bool.not_false]
  refine w_rd O5 W5 0 (j := 1) rfl rfl ?_
  simp only [oB_some, bC_true, bC_false, vInt_int, vBool_bool, vStr_string, vPtr_pointer, vSl_slice, vMap_map, vFun_func, vAgg_agg, vTup_tuple, vIfc_nil, vIfc_iface, lC_cons, lN_nil, aP_some, shO_none, shO_some, Option.isNone_none, Option.isNone_some, Bool.not_true, Bool.not_false]
  refine w_rd O5 W5 0 (j := 2) rfl rfl ?_
  simp only [oB_some, bC_true, bC_false, vInt_int, vBool_bool, vStr_string, vPtr_pointer, vSl_slice, vMap_map, vFun_func, vAgg_agg, vTup_tuple, vIfc_nil, vIfc_iface, lC_cons, lN_nil, aP_some, shO_none, shO_some, Option.isNone_none, Option.isNone_some, Bool.not_true, Bool.not_false]
  refine w_rd O5 W5 0 (j := 3) rfl rfl ?_
  simp only [oB_some, bC_true, bC_false, vInt_int, vBool_bool, vStr_string, vPtr_pointer, vSl_slice, vMap_map, vFun_func, vAgg_agg, vTup_tuple, vIfc_nil, vIfc_iface, lC_cons, lN_nil, aP_some, shO_none, shO_some, Option.isNone_none, Option.isNone_some, Bool.not_true, Bool.not_false]
  refine jobText_ok O5 (T.keep F5) (J'.keep F5) n2 n3 hl2 hz2 hs2 (by omega) fun h6 μ6 ρ6 O6 G6 => ?_
  have W6 := W5.keep0 G6
  have F6 := F5.trans G6
  simp only [oB_some, bC_true, bC_false, vInt_int, vBool_bool, vStr_string, vPtr_pointer, vSl_slice, vMap_map, vFun_func, vAgg_agg, vTup_tuple, vIfc_nil, vIfc_iface, lC_cons, lN_nil, aP_some, shO_none, shO_some, Option.isNone_none, Option.isNone_some, Bool.not_true, Bool.not_false]
  refine w_rd O4 W4 0 (j := 0) rfl rfl ?_
  simp only [oB_some, bC_true, bC_false, vInt_int, vBool_bool, vStr_string, vPtr_pointer, vSl_slice, vMap_map, vFun_func, vAgg_agg, vTup_tuple, vIfc_nil, vIfc_iface, lC_cons, lN_nil, aP_some, shO_none, shO_some, Option.isNone_none, Option.isNone_some, Bool.not_true, Bool.not_false]
  refine w_rd O4 W4 0 (j := 1) rfl rfl ?_
  simp only [oB_some, bC_true, bC_false, vInt_int, vBool_bool, vStr_string, vPtr_pointer, vSl_slice, vMap_map, vFun_func, vAgg_agg, vTup_tuple, vIfc_nil, vIfc_iface, lC_cons, lN_nil, aP_some, shO_none, shO_some, Option.isNone_none, Option.isNone_some, Bool.not_true, Bool.not_false]
  refine w_rd O4 W4 0 (j := 2) rfl rfl ?_
  simp only [oB_some, bC_true, bC_false, vInt_int, vBool_bool, vStr_string, vPtr_pointer, vSl_slice, vMap_map, vFun_func, vAgg_agg, vTup_tuple, vIfc_nil, vIfc_iface, lC_cons, lN_nil, aP_some, shO_none, shO_some, Option.isNone_none, Option.isNone_some, Bool.not_true, Bool.not_false]
  refine w_rd O4 W4 0 (j := 3) rfl rfl ?_
  simp only [oB_some, bC_true, bC_false, vInt_int, vBool_bool, vStr_string, vPtr_pointer, vSl_slice, vMap_map, vFun_func, vAgg_agg, vTup_tuple, vIfc_nil, vIfc_iface, lC_cons, lN_nil, aP_some, shO_none, shO_some, Option.isNone_none, Option.isNone_some, Bool.not_true, Bool.not_false]
  refine ⟨trivial, ?_⟩
  refine w_rd O6 W6 1 (j := 0) rfl rfl ?_
  simp only [oB_some, bC_true, bC_false, vInt_int, vBool_bool, vStr_string, vPtr_pointer, vSl_slice, vMap_map, vFun_func, vAgg_agg, vTup_tuple, vIfc_nil, vIfc_iface, lC_cons, lN_nil, aP_some, shO_none, shO_some, Option.isNone_none, Option.isNone_some, Bool.not_true, Bool.not_false]
  refine w_rd O6 W6 1 (j := 1) rfl rfl ?_
  simp only [oB_some, bC_true, bC_false, vInt_int, vBool_bool, vStr_string, vPtr_pointer, vSl_slice, vMap_map, vFun_func, vAgg_agg, vTup_tuple, vIfc_nil, vIfc_iface, lC_cons, lN_nil, aP_some, shO_none, shO_some, Option.isNone_none, Option.isNone_some, Bool.not_true, Bool.not_false]
  refine w_rd O6 W6 1 (j := 2) rfl rfl ?_
  simp only [oB_some, bC_true, bC_false, vInt_int, vBool_bool, vStr_string, vPtr_pointer, vSl_slice, vMap_map, vFun_func, vAgg_agg, vTup_tuple, vIfc_nil, vIfc_iface, lC_cons, lN_nil, aP_some, shO_none, shO_some, Option.isNone_none, Option.isNone_some, Bool.not_true, Bool.not_false]
  refine w_rd O6 W6 1 (j := 3) rfl rfl ?_
  simp only [oB_some, bC_true, bC_false, vInt_int, vBool_bool, vStr_string, vPtr_pointer, vSl_slice, vMap_map, vFun_func, vAgg_agg, vTup_tuple, vIfc_nil, vIfc_iface, lC_cons, lN_nil, aP_some, shO_none, shO_some, Option.isNone_none, Option.isNone_some, Bool.not_true, Bool.not_false]
  refine rjobText_ok O6 (J.keep F6) m2 m3 hl1 hz1 hs1 (by omega) fun h7 μ7 ρ7 O7 G7 => ?_
  have W7 := W6.keep0 G7
  have F7 := F6.trans G7
  simp only [oB_some, bC_true, bC_false, vInt_int, vBool_bool, vStr_string, vPtr_pointer, vSl_slice, vMap_map, vFun_func, vAgg_agg, vTup_tuple, vIfc_nil, vIfc_iface, lC_cons, lN_nil, aP_some, shO_none, shO_some, Option.isNone_none, Option.isNone_some, Bool.not_true, Bool.not_false]
  rw [show bEq (⟨⟨jobL ts ds (linesM f)⟩⟩ : ByteArray) ⟨⟨jobL ts ds (linesM f)⟩⟩ = true from bEq_iff.2 rfl]
  simp only [oB_some, bC_true, bC_false, vInt_int, vBool_bool, vStr_string, vPtr_pointer, vSl_slice, vMap_map, vFun_func, vAgg_agg, vTup_tuple, vIfc_nil, vIfc_iface, lC_cons, lN_nil, aP_some, shO_none, shO_some, Option.isNone_none, Option.isNone_some, Bool.not_true, Bool.not_false]
  refine w_rd O7 W7 0 (j := 0) rfl rfl ?_
  simp only [oB_some, bC_true, bC_false, vInt_int, vBool_bool, vStr_string, vPtr_pointer, vSl_slice, vMap_map, vFun_func, vAgg_agg, vTup_tuple, vIfc_nil, vIfc_iface, lC_cons, lN_nil, aP_some, shO_none, shO_some, Option.isNone_none, Option.isNone_some, Bool.not_true, Bool.not_false]
  refine w_rd O7 W7 0 (j := 1) rfl rfl ?_
  simp only [oB_some, bC_true, bC_false, vInt_int, vBool_bool, vStr_string, vPtr_pointer, vSl_slice, vMap_map, vFun_func, vAgg_agg, vTup_tuple, vIfc_nil, vIfc_iface, lC_cons, lN_nil, aP_some, shO_none, shO_some, Option.isNone_none, Option.isNone_some, Bool.not_true, Bool.not_false]
  refine w_rd O7 W7 0 (j := 2) rfl rfl ?_
  simp only [oB_some, bC_true, bC_false, vInt_int, vBool_bool, vStr_string, vPtr_pointer, vSl_slice, vMap_map, vFun_func, vAgg_agg, vTup_tuple, vIfc_nil, vIfc_iface, lC_cons, lN_nil, aP_some, shO_none, shO_some, Option.isNone_none, Option.isNone_some, Bool.not_true, Bool.not_false]
  refine w_rd O7 W7 0 (j := 3) rfl rfl ?_
  simp only [oB_some, bC_true, bC_false, vInt_int, vBool_bool, vStr_string, vPtr_pointer, vSl_slice, vMap_map, vFun_func, vAgg_agg, vTup_tuple, vIfc_nil, vIfc_iface, lC_cons, lN_nil, aP_some, shO_none, shO_some, Option.isNone_none, Option.isNone_some, Bool.not_true, Bool.not_false]
  refine rjobText_ok O7 (J'.keep F7) n2 n3 hl2 hz2 hs2 (by omega) fun h8 μ8 ρ8 O8 G8 => ?_
  have W8 := W7.keep0 G8
  have F8 := F7.trans G8
  simp only [oB_some, bC_true, bC_false, vInt_int, vBool_bool, vStr_string, vPtr_pointer, vSl_slice, vMap_map, vFun_func, vAgg_agg, vTup_tuple, vIfc_nil, vIfc_iface, lC_cons, lN_nil, aP_some, shO_none, shO_some, Option.isNone_none, Option.isNone_some, Bool.not_true, Bool.not_false]
  rw [show bEq (⟨⟨jobL ts' ds' (linesM g)⟩⟩ : ByteArray) ⟨⟨jobL ts' ds' (linesM g)⟩⟩ = true from bEq_iff.2 rfl]
  simp only [oB_some, bC_true, bC_false, vInt_int, vBool_bool, vStr_string, vPtr_pointer, vSl_slice, vMap_map, vFun_func, vAgg_agg, vTup_tuple, vIfc_nil, vIfc_iface, lC_cons, lN_nil, aP_some, shO_none, shO_some, Option.isNone_none, Option.isNone_some, Bool.not_true, Bool.not_false]
  refine w_rd O8 W8 1 (j := 3) rfl rfl ?_
  simp only [oB_some, bC_true, bC_false, vInt_int, vBool_bool, vStr_string, vPtr_pointer, vSl_slice, vMap_map, vFun_func, vAgg_agg, vTup_tuple, vIfc_nil, vIfc_iface, lC_cons, lN_nil, aP_some, shO_none, shO_some, Option.isNone_none, Option.isNone_some, Bool.not_true, Bool.not_false]
  refine may_ok O8 (J.code.keep F8) hz1 fun h9 μ9 ρ9 O9 G9 => ?_
  have W9 := W8.keep0 G9
  have F9 := F8.trans G9
  simp only [oB_some, bC_true, bC_false, vInt_int, vBool_bool, vStr_string, vPtr_pointer, vSl_slice, vMap_map, vFun_func, vAgg_agg, vTup_tuple, vIfc_nil, vIfc_iface, lC_cons, lN_nil, aP_some, shO_none, shO_some, Option.isNone_none, Option.isNone_some, Bool.not_true, Bool.not_false]
  refine bC_iff (fun _ => hq _) (fun e => ?_)
  have fm : f.may = true := by simpa using e
  refine w_rd O9 W9 0 (j := 3) rfl rfl ?_
  simp only [oB_some, bC_true, bC_false, vInt_int, vBool_bool, vStr_string, vPtr_pointer, vSl_slice, vMap_map, vFun_func, vAgg_agg, vTup_tuple, vIfc_nil, vIfc_iface, lC_cons, lN_nil, aP_some, shO_none, shO_some, Option.isNone_none, Option.isNone_some, Bool.not_true, Bool.not_false]
  refine may_ok O9 (J'.code.keep F9) hz2 fun h10 μ10 ρ10 O10 G10 => ?_
  have W10 := W9.keep0 G10
  have F10 := F9.trans G10
  simp only [oB_some, bC_true, bC_false, vInt_int, vBool_bool, vStr_string, vPtr_pointer, vSl_slice, vMap_map, vFun_func, vAgg_agg, vTup_tuple, vIfc_nil, vIfc_iface, lC_cons, lN_nil, aP_some, shO_none, shO_some, Option.isNone_none, Option.isNone_some, Bool.not_true, Bool.not_false]
  refine bC_iff (fun _ => hq _) (fun e => ?_)
  have gm : g.may = true := by simpa using e
  refine w_rd O10 W10 1 (j := 1) rfl rfl ?_
  simp only [oB_some, bC_true, bC_false, vInt_int, vBool_bool, vStr_string, vPtr_pointer, vSl_slice, vMap_map, vFun_func, vAgg_agg, vTup_tuple, vIfc_nil, vIfc_iface, lC_cons, lN_nil, aP_some, shO_none, shO_some, Option.isNone_none, Option.isNone_some, Bool.not_true, Bool.not_false]
  refine paths_ok O10 (J.ts.keep F10) (by omega) fun b1 hb1 => ?_
  simp only [oB_some, bC_true, bC_false, vInt_int, vBool_bool, vStr_string, vPtr_pointer, vSl_slice, vMap_map, vFun_func, vAgg_agg, vTup_tuple, vIfc_nil, vIfc_iface, lC_cons, lN_nil, aP_some, shO_none, shO_some, Option.isNone_none, Option.isNone_some, Bool.not_true, Bool.not_false]
  refine bC_iff (fun _ => hq _) (fun e => ?_)
  have hb1 := hb1 (by simpa using e)
  refine w_rd O10 W10 0 (j := 1) rfl rfl ?_
  simp only [oB_some, bC_true, bC_false, vInt_int, vBool_bool, vStr_string, vPtr_pointer, vSl_slice, vMap_map, vFun_func, vAgg_agg, vTup_tuple, vIfc_nil, vIfc_iface, lC_cons, lN_nil, aP_some, shO_none, shO_some, Option.isNone_none, Option.isNone_some, Bool.not_true, Bool.not_false]
  refine paths_ok O10 (J'.ts.keep F10) (by omega) fun b2 hb2 => ?_
  simp only [oB_some, bC_true, bC_false, vInt_int, vBool_bool, vStr_string, vPtr_pointer, vSl_slice, vMap_map, vFun_func, vAgg_agg, vTup_tuple, vIfc_nil, vIfc_iface, lC_cons, lN_nil, aP_some, shO_none, shO_some, Option.isNone_none, Option.isNone_some, Bool.not_true, Bool.not_false]
  refine bC_iff (fun _ => hq _) (fun e => ?_)
  have hb2 := hb2 (by simpa using e)
  refine w_rd O10 W10 1 (j := 2) rfl rfl ?_
  simp only [oB_some, bC_true, bC_false, vInt_int, vBool_bool, vStr_string, vPtr_pointer, vSl_slice, vMap_map, vFun_func, vAgg_agg, vTup_tuple, vIfc_nil, vIfc_iface, lC_cons, lN_nil, aP_some, shO_none, shO_some, Option.isNone_none, Option.isNone_some, Bool.not_true, Bool.not_false]
  refine paths_ok O10 (J.ds.keep F10) (by omega) fun b3 hb3 => ?_
  simp only [oB_some, bC_true, bC_false, vInt_int, vBool_bool, vStr_string, vPtr_pointer, vSl_slice, vMap_map, vFun_func, vAgg_agg, vTup_tuple, vIfc_nil, vIfc_iface, lC_cons, lN_nil, aP_some, shO_none, shO_some, Option.isNone_none, Option.isNone_some, Bool.not_true, Bool.not_false]
  refine bC_iff (fun _ => hq _) (fun e => ?_)
  have hb3 := hb3 (by simpa using e)
  refine w_rd O10 W10 0 (j := 2) rfl rfl ?_
  simp only [oB_some, bC_true, bC_false, vInt_int, vBool_bool, vStr_string, vPtr_pointer, vSl_slice, vMap_map, vFun_func, vAgg_agg, vTup_tuple, vIfc_nil, vIfc_iface, lC_cons, lN_nil, aP_some, shO_none, shO_some, Option.isNone_none, Option.isNone_some, Bool.not_true, Bool.not_false]
  refine paths_ok O10 (J'.ds.keep F10) (by omega) fun b4 hb4 => ?_
  simp only [oB_some, bC_true, bC_false, vInt_int, vBool_bool, vStr_string, vPtr_pointer, vSl_slice, vMap_map, vFun_func, vAgg_agg, vTup_tuple, vIfc_nil, vIfc_iface, lC_cons, lN_nil, aP_some, shO_none, shO_some, Option.isNone_none, Option.isNone_some, Bool.not_true, Bool.not_false]
  refine bC_iff (fun _ => hq _) (fun e => ?_)
  have hb4 := hb4 (by simpa using e)
  have key := texts_key (ts := ts) (ds := ds) (ts' := ts') (ds' := ds') (fun s hs => hs.elim (hb1 s) (hb3 s)) (fun s hs => hs.elim (hb2 s) (hb4 s)) fm gm
  rw [key]
  refine w_rd O10 W10 1 (j := 1) rfl rfl ?_
  simp only [oB_some, bC_true, bC_false, vInt_int, vBool_bool, vStr_string, vPtr_pointer, vSl_slice, vMap_map, vFun_func, vAgg_agg, vTup_tuple, vIfc_nil, vIfc_iface, lC_cons, lN_nil, aP_some, shO_none, shO_some, Option.isNone_none, Option.isNone_some, Bool.not_true, Bool.not_false]
  refine w_rd O10 W10 0 (j := 1) rfl rfl ?_
  simp only [oB_some, bC_true, bC_false, vInt_int, vBool_bool, vStr_string, vPtr_pointer, vSl_slice, vMap_map, vFun_func, vAgg_agg, vTup_tuple, vIfc_nil, vIfc_iface, lC_cons, lN_nil, aP_some, shO_none, shO_some, Option.isNone_none, Option.isNone_some, Bool.not_true, Bool.not_false]
  refine texts_ok O10 (J.ts.keep F10) (J'.ts.keep F10) (by omega) ?_
  simp only [oB_some, bC_true, bC_false, vInt_int, vBool_bool, vStr_string, vPtr_pointer, vSl_slice, vMap_map, vFun_func, vAgg_agg, vTup_tuple, vIfc_nil, vIfc_iface, lC_cons, lN_nil, aP_some, shO_none, shO_some, Option.isNone_none, Option.isNone_some, Bool.not_true, Bool.not_false]
  by_cases x1 : ts = ts'
  · rw [decide_eq_true x1]
    simp only [oB_some, bC_true, bC_false, vInt_int, vBool_bool, vStr_string, vPtr_pointer, vSl_slice, vMap_map, vFun_func, vAgg_agg, vTup_tuple, vIfc_nil, vIfc_iface, lC_cons, lN_nil, aP_some, shO_none, shO_some, Option.isNone_none, Option.isNone_some, Bool.not_true, Bool.not_false]
    refine w_rd O10 W10 1 (j := 2) rfl rfl ?_
    simp only [oB_some, bC_true, bC_false, vInt_int, vBool_bool, vStr_string, vPtr_pointer, vSl_slice, vMap_map, vFun_func, vAgg_agg, vTup_tuple, vIfc_nil, vIfc_iface, lC_cons, lN_nil, aP_some, shO_none, shO_some, Option.isNone_none, Option.isNone_some, Bool.not_true, Bool.not_false]
    refine w_rd O10 W10 0 (j := 2) rfl rfl ?_
    simp only [oB_some, bC_true, bC_false, vInt_int, vBool_bool, vStr_string, vPtr_pointer, vSl_slice, vMap_map, vFun_func, vAgg_agg, vTup_tuple, vIfc_nil, vIfc_iface, lC_cons, lN_nil, aP_some, shO_none, shO_some, Option.isNone_none, Option.isNone_some, Bool.not_true, Bool.not_false]
    refine texts_ok O10 (J.ds.keep F10) (J'.ds.keep F10) (by omega) ?_
    simp only [oB_some, bC_true, bC_false, vInt_int, vBool_bool, vStr_string, vPtr_pointer, vSl_slice, vMap_map, vFun_func, vAgg_agg, vTup_tuple, vIfc_nil, vIfc_iface, lC_cons, lN_nil, aP_some, shO_none, shO_some, Option.isNone_none, Option.isNone_some, Bool.not_true, Bool.not_false]
    by_cases x2 : ds = ds'
    · rw [decide_eq_true x2]
      simp only [oB_some, bC_true, bC_false, vInt_int, vBool_bool, vStr_string, vPtr_pointer, vSl_slice, vMap_map, vFun_func, vAgg_agg, vTup_tuple, vIfc_nil, vIfc_iface, lC_cons, lN_nil, aP_some, shO_none, shO_some, Option.isNone_none, Option.isNone_some, Bool.not_true, Bool.not_false]
      refine w_rd O10 W10 1 (j := 3) rfl rfl ?_
      simp only [oB_some, bC_true, bC_false, vInt_int, vBool_bool, vStr_string, vPtr_pointer, vSl_slice, vMap_map, vFun_func, vAgg_agg, vTup_tuple, vIfc_nil, vIfc_iface, lC_cons, lN_nil, aP_some, shO_none, shO_some, Option.isNone_none, Option.isNone_some, Bool.not_true, Bool.not_false]
      refine w_rd O10 W10 0 (j := 3) rfl rfl ?_
      simp only [oB_some, bC_true, bC_false, vInt_int, vBool_bool, vStr_string, vPtr_pointer, vSl_slice, vMap_map, vFun_func, vAgg_agg, vTup_tuple, vIfc_nil, vIfc_iface, lC_cons, lN_nil, aP_some, shO_none, shO_some, Option.isNone_none, Option.isNone_some, Bool.not_true, Bool.not_false]
      refine same_ok O10 (J.code.keep F10) (J'.code.keep F10) hf.ff hl1 fun h11 μ11 ρ11 O11 G11 => ?_
      simp only [oB_some, bC_true, bC_false, vInt_int, vBool_bool, vStr_string, vPtr_pointer, vSl_slice, vMap_map, vFun_func, vAgg_agg, vTup_tuple, vIfc_nil, vIfc_iface, lC_cons, lN_nil, aP_some, shO_none, shO_some, Option.isNone_none, Option.isNone_some, Bool.not_true, Bool.not_false]
      rw [Bool.true_and, Bool.true_and, show (F.eqB f g == F.eqB f g) = true from by simp]
      exact hq _
    · rw [decide_eq_false x2]
      simp only [oB_some, bC_true, bC_false, vInt_int, vBool_bool, vStr_string, vPtr_pointer, vSl_slice, vMap_map, vFun_func, vAgg_agg, vTup_tuple, vIfc_nil, vIfc_iface, lC_cons, lN_nil, aP_some, shO_none, shO_some, Option.isNone_none, Option.isNone_some, Bool.not_true, Bool.not_false]
      exact hq _
  · rw [decide_eq_false x1]
    simp only [oB_some, bC_true, bC_false, vInt_int, vBool_bool, vStr_string, vPtr_pointer, vSl_slice, vMap_map, vFun_func, vAgg_agg, vTup_tuple, vIfc_nil, vIfc_iface, lC_cons, lN_nil, aP_some, shO_none, shO_some, Option.isNone_none, Option.isNone_some, Bool.not_true, Bool.not_false]
    exact hq _
end Go.Proofs.YtamoepfiodgbbaaGreatDoor
end

section
/- What the rows of layer 15 share: types, a world for the witness, jobs opened. -/
open Go.RowKit
namespace Go.Proofs.YtamoepfiodgbbaaGreatDoor
open Go.Abs Go.Abs.Fo Go.ChangeShapes Go.WideShapes
set_option maxRecDepth 100000
theorem own_knob : ownKnob Tryz.prog.godebug = none := by kernel_rfl
theorem st_types : StT Tryz.prog 60 66 3 22 9 #[⟨"Op", 3, 0, false, "", "", 0⟩, ⟨"Args", 22, 1, false, "", "", 8⟩, ⟨"N", 3, 2, false, "", "", 32⟩, ⟨"Body", 60, 3, false, "", "", 40⟩] :=
  ⟨by kernel_rfl, by kernel_rfl, by kernel_rfl, by kernel_rfl, by kernel_rfl, by kernel_rfl, by kernel_rfl, by kernel_rfl, by kernel_rfl, by kernel_rfl, of_decide_eq_true (by kernel_rfl), of_decide_eq_true (by kernel_rfl), ⟨_, rfl, rfl, rfl⟩, ⟨_, rfl, rfl, rfl⟩, ⟨_, rfl, rfl, rfl⟩, ⟨_, rfl, rfl, rfl⟩⟩
theorem ly_of {W : World} {f : F} {cells : List Value} {a : Option Addr} {vs ws : List (Option Addr × List Value)} (G : GoodV W ws) (hs : ∀ x, x ∈ vs → x ∈ ws) (V : Vin vs a cells) (L : Lies (Vin vs) f cells) : Ly (argStore ws) f a :=
  ⟨cells, (V.mono hs).vw G, L.mono fun _ _ x => (x.mono hs).vw G⟩
/-- A world for the witness: the tables and the errors hold what their initialisers lay. -/
noncomputable def lowB : Nat := (World.holding Tryz.prog default ⟨#[], #[], []⟩).heap.size
abbrev textRange : ByteArray := ⟨#[118, 97, 108, 117, 101, 32, 111, 117, 116, 32, 111, 102, 32, 114, 97, 110, 103, 101]⟩
abbrev textSyntax : ByteArray := ⟨#[105, 110, 118, 97, 108, 105, 100, 32, 115, 121, 110, 116, 97, 120]⟩
def tabCellsF : DataW Unit → Array Value
  | .agg l => (l.flatMap fun
    | .lit (.int k z) => [Value.int k z]
    | .agg m => m.map fun
      | .lit (.int k z) => Value.int k z
      | _ => .bool false
    | _ => [.bool false]).toArray
  | _ => #[]
def putTabF (h : Array Obj) : List (Nat × DataW Unit) → Array Obj
  | [] => h
  | (g, d) :: l => (putTabF h l).modify g fun
    | .cells _ t frozen => .cells (tabCellsF d) t frozen
    | o => o
noncomputable def laidW (os : Os) : World :=
  let w0 := World.holding Tryz.prog os ⟨#[.cells #[.string textRange] 241, .cells #[.string textSyntax] 241], #[], []⟩
  { w0 with heap := ((putTabF w0.heap [(6, Rows.laid_math_bits_deBruijn32tab), (7, Rows.laid_math_bits_deBruijn64tab), (5, Rows.laid_internal_strconv_uint64pow10), (2, Rows.laid_unicode_utf8_acceptRanges), (1, Rows.laid_unicode_utf8_first)]).modify 4 fun
      | .cells _ t frozen => .cells #[.iface 239 (.pointer (some ⟨lowB, 0, none⟩))] t frozen
      | o => o).modify 3 fun
      | .cells _ t frozen => .cells #[.iface 239 (.pointer (some ⟨lowB + 1, 0, none⟩))] t frozen
      | o => o }
theorem laid_met {args : Array Value} (os : Os) : laidMet Tryz.prog Rows.elabTextsRow.laid ((laidW os).forCall (fun _ _ => 0) ⟨#[], args, []⟩).memory :=
  laidMet_of_run' 8 (by kernel_rfl) (by kernel_rfl)
/-- The powers of ten, as the row lists them. -/
theorem pow_good {W : World} {rest : List (String × DataW Unit)} (h : laidMet Tryz.prog (("internal/strconv.uint64pow10", Rows.laid_internal_strconv_uint64pow10) :: rest) W) : GoodV W [(some ⟨5, 0, none⟩, pow10)] := by
  have ht : Lib.TabIs Tryz.prog W "internal/strconv.uint64pow10" .u64 [1, 10, 100, 1000, 10000, 100000, 1000000, 10000000, 100000000, 1000000000, 10000000000, 100000000000, 1000000000000, 10000000000000, 100000000000000, 1000000000000000, 10000000000000000, 100000000000000000, 1000000000000000000, 10000000000000000000] :=
    Lib.tabIs_of_head (g := 5) (t := 236) (e := 202) (n := 20) (by kernel_rfl) (by kernel_rfl) (by kernel_rfl) (by kernel_rfl) (by kernel_rfl) (by kernel_rfl) h
  have hg : Tryz.prog.globalNamed "internal/strconv.uint64pow10" = some 5 := by kernel_rfl
  intro a l hm
  simp at hm
  obtain ⟨rfl, rfl⟩ := hm
  refine ⟨5, 0, rfl, ?_, fun j hj => ?_⟩
  · have := cell_block (ht.cell hg 0 (by simp))
    simp only at this
    omega
  · have hc := ht.cell hg j (by simpa using hj)
    rw [Nat.zero_add]
    have := mir_rd hc (.int _ _)
    rw [this]
    have e : ∀ k : Fin 20, pow10[k.1]? = some (.int .u64 ([1, 10, 100, 1000, 10000, 100000, 1000000, 10000000, 100000000, 1000000000, 10000000000, 100000000000, 1000000000000, 10000000000000, 100000000000000, 1000000000000000, 10000000000000000, 100000000000000000, 1000000000000000000, 10000000000000000000].getD k.1 0)) := by
      intro k
      match k with
      | ⟨0, _⟩ | ⟨1, _⟩ | ⟨2, _⟩ | ⟨3, _⟩ | ⟨4, _⟩ | ⟨5, _⟩ | ⟨6, _⟩ | ⟨7, _⟩ | ⟨8, _⟩ | ⟨9, _⟩ | ⟨10, _⟩ | ⟨11, _⟩ | ⟨12, _⟩ | ⟨13, _⟩ | ⟨14, _⟩ | ⟨15, _⟩ | ⟨16, _⟩ | ⟨17, _⟩ | ⟨18, _⟩ | ⟨19, _⟩ => rfl
      | ⟨k + 20, hk⟩ => exact absurd hk (by omega)
    rw [e ⟨j, by simpa using hj⟩]
    rfl
section
variable {H : Type} {enc : TypeId × Value → H} {W : World} {held : Bool}
/-- A job opened. -/
theorem open_job {n : Nat} {cs : List Value} {x : DataW H × List MemPlace} (h : DataW.trod enc Tryz.prog W 0 (fun _ => true) held n 62 cs = some x) (hz : Light Tryz.prog 62 x.1) (hl : cs.length = 4) :
    ∃ s b cb ts a ca ds c cc f vs, VRel (argMap W.heap.size) (.agg ⟨[.string s, .slice b (ts : List Str).length cb, .slice a (ds : List Str).length ca, .slice c (f : F).len cc]⟩) (.agg ⟨cs⟩) ∧ GoodV W vs ∧ JobFits ts ds f ∧
      ∀ ws, GoodV W ws → (∀ x, x ∈ vs → x ∈ ws) → JobAt (argStore ws) ts ds f b a c := by
  match cs, hl with
  | [c0, c1, c2, c3], _ =>
    obtain ⟨m, _, hf⟩ := open_structF (fs := #[⟨"Key", 9, 0, false, "", "", 0⟩, ⟨"Targets", 22, 1, false, "", "", 16⟩, ⟨"Deps", 22, 2, false, "", "", 40⟩, ⟨"Code", 60, 3, false, "", "", 64⟩]) (by kernel_rfl) h
    obtain ⟨y0, t0, z0⟩ := hf 0 ⟨"Key", 9, 0, false, "", "", 0⟩ rfl
    obtain ⟨y1, t1, z1⟩ := hf 1 ⟨"Targets", 22, 1, false, "", "", 16⟩ rfl
    obtain ⟨y2, t2, z2⟩ := hf 2 ⟨"Deps", 22, 2, false, "", "", 40⟩ rfl
    obtain ⟨y3, t3, z3⟩ := hf 3 ⟨"Code", 60, 3, false, "", "", 64⟩ rfl
    have k9 : Tryz.prog.cellsOf 9 = 1 := by kernel_rfl
    have k22 : Tryz.prog.cellsOf 22 = 1 := by kernel_rfl
    have k60 : Tryz.prog.cellsOf 60 = 1 := by kernel_rfl
    simp only [k9, k22, k60, List.drop_zero, List.drop_succ_cons, List.take_succ_cons, List.take_zero] at t0 t1 t2 t3
    obtain ⟨s, e0, _⟩ := DataW.trod_string Tryz.underlying9 t0
    obtain ⟨v1, b, cb, ts, vs1, e1, r1, n1, _, _, l1, s1, g1, i1⟩ := open_words (P := Tryz.prog) (tA := 22) (tS := 9) Tryz.underlying22 Tryz.underlying9 (by kernel_rfl) (of_decide_eq_true (by kernel_rfl)) t1 (fun z hz1 => hz z (z1 z hz1))
    obtain ⟨v2, a, ca, ds, vs2, e2, r2, n2, _, _, l2, s2, g2, i2⟩ := open_words (P := Tryz.prog) (tA := 22) (tS := 9) Tryz.underlying22 Tryz.underlying9 (by kernel_rfl) (of_decide_eq_true (by kernel_rfl)) t2 (fun z hz2 => hz z (z2 z hz2))
    obtain ⟨v3, e3, c, cc, f, cl, vs3, r3, n3, _, _, l3, f3, g3, i3, y3⟩ := open_stmts st_types m t3 (fun z hz3 => hz z (z3 z hz3))
    cases e0; cases e1; cases e2; cases e3
    rw [n1] at r1
    rw [n2] at r2
    rw [n3] at r3
    refine ⟨s, b, cb, ts, a, ca, ds, c, cc, f, (vs1 ++ vs2) ++ vs3, ?_, (g1.app g2).app g3, ⟨l1, fun s hs => by have := s1 s hs; omega, l2, fun s hs => by have := s2 s hs; omega, l3, f3⟩, fun ws G hs => ⟨?_, ?_, ?_⟩⟩
    · refine VRel.agg rfl fun i v v' h1 h2 => ?_
      match i, h1, h2 with
      | 0, h1, h2 => cases h1; cases h2; exact .string _
      | 1, h1, h2 => cases h1; cases h2; exact r1
      | 2, h1, h2 => cases h1; cases h2; exact r2
      | 3, h1, h2 => cases h1; cases h2; exact r3
    · exact (i1.mono fun x hx => hs x (by simp [hx])).vw G
    · exact (i2.mono fun x hx => hs x (by simp [hx])).vw G
    · exact ly_of G (fun x hx => hs x (by simp [hx])) i3 y3
end
end Go.Proofs.YtamoepfiodgbbaaGreatDoor
end
