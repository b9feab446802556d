/- A deterministic heap for the model, proved sound, and walks of the program over it: part 10. No condition. -/
import Derived.Test.YtgdkekdedgkglaaDoorAb1
import Derived.Test.YtgdkekdedgkglaaDoorAb2
import Derived.Test.YtgdkekdedgkglaaDoorAb3
import Derived.Test.YtgdkekdedgkglaaDoorAb4
import Derived.Test.YtgdkekdedgkglaaDoorAb5
import Derived.Test.YtgdkekdedgkglaaDoorCd1
import Derived.Test.YtgdkekdedgkglaaDoorCd2
import Derived.Test.YtgdkekdedgkglaaDoorCd3
import Derived.Test.YtgdkekdedgkglaaDoorAb6
import Derived.Test.YtgdkekdedgkglaaDoorCards
import Derived.Test.YtgdkekdedgkglaaDoorTie
import Derived.OpenShut
import Derived.Carry
set_option linter.unusedVariables false
set_option linter.unusedSimpArgs false
set_option linter.unusedSectionVars false
section
/- SchedFlows: what its loop lives on; the wanted tasks are wanted; the end. -/
namespace Go.Proofs.YtgdkekdedgkglaaDoor
open Go.Abs Go.Abs.Sch
open Go.Abs.Fo (Vw)
set_option maxRecDepth 100000
attribute [local irreducible] unitAt EvQ
variable {h : AW} {μ : Paint} {ρ : Store} {Q : Value → AW → Prop}
theorem frnCons {c : Nat} {ns ms : List Nat} {ρ ρ' : Store} (F : FrN ns ρ ms ρ') : FrN (c :: ns) ρ (c :: ms) ρ' := ⟨fun d r hn hd => F.1 d r (fun x => hn (List.mem_cons_of_mem _ x)) hd, fun d hd => by
  rcases List.mem_cons.1 hd with x | x
  · exact .inl (by rw [x]; simp)
  · rcases F.2.1 d x with y | y
    · exact .inl (List.mem_cons_of_mem _ y)
    · exact .inr y, fun d hd => by
  rcases List.mem_cons.1 hd with x | x
  · rw [x]; simp
  · exact List.mem_cons_of_mem _ (F.2.2 d x)⟩
/-- How much a task asks. -/
def qlen (qs : List Iw) (i : Nat) : Nat := (qs.map fun q => q.x.length).getD i 0
theorem qlen_at {qs : List Iw} {i : Nat} (hi : i < qs.length) : qlen qs i = qs[i].x.length := by simp [qlen, hi]
theorem qlen_out {qs : List Iw} {i : Nat} (hi : qs.length ≤ i) : qlen qs i = 0 := by simp [qlen, hi]
def sumN (a : Nat → Nat) (n : Nat) : Nat := ((List.range n).map a).sum
theorem sumN_succ (a : Nat → Nat) (n : Nat) : sumN a (n + 1) = sumN a n + a n := by simp [sumN, List.range_succ]
theorem sumN_le {a b : Nat → Nat} : ∀ {n : Nat}, (∀ i, a i ≤ b i) → sumN a n ≤ sumN b n
  | 0, _ => by simp [sumN]
  | n + 1, h => by
    rw [sumN_succ, sumN_succ]
    have := sumN_le (n := n) h
    have := h n
    omega
theorem sumN_bump {a : Nat → Nat} {i : Nat} : ∀ {n : Nat}, sumN (bump a i) n = sumN a n + if i < n then 1 else 0
  | 0 => by simp [sumN]
  | n + 1 => by
    rw [sumN_succ, sumN_succ, sumN_bump]
    unfold bump
    by_cases e : n = i
    · subst e; simp; omega
    · rw [if_neg e]
      by_cases e2 : i < n
      · rw [if_pos e2, if_pos (by omega)]; omega
      · rw [if_neg e2, if_neg (by omega)]; omega
theorem sumN_qlen (qs : List Iw) : sumN (qlen qs) qs.length = (qs.map fun q => q.x.length).sum := by
  unfold sumN
  congr 1
  apply List.ext_getElem
  · simp
  · intro i h1 h2
    simp at h1
    simp [qlen_at h1]
structure Fit (qs : List Iw) : Prop where
  n : qs.length ≤ 24
  l : ∀ q, q ∈ qs → q.x.length ≤ 8
  r : ∀ q, q ∈ qs → ∀ z, z ∈ q.x → 0 ≤ z ∧ z < (qs.length : Int)
theorem Fit.ql {qs : List Iw} (F : Fit qs) (i : Nat) : qlen qs i ≤ 8 := by
  by_cases hi : i < qs.length
  · rw [qlen_at hi]; exact F.l _ (List.getElem_mem hi)
  · rw [qlen_out (by omega)]; omega
theorem Fit.all {qs : List Iw} (F : Fit qs) : (qs.map fun q => q.x.length).sum ≤ 192 := by
  rw [← sumN_qlen]
  have h1 := sumN_le (n := qs.length) F.ql
  have : ∀ n, sumN (fun _ => 8) n = 8 * n := fun n => by
    induction n with
    | zero => rfl
    | succ n ih => rw [sumN_succ, ih]; omega
  rw [this] at h1
  have := F.n
  omega
def avL (n : Nat) (av : Nat → Nat) : List Int := (List.range n).map fun i => ((av i : Nat) : Int)
theorem avL_at {n i : Nat} {av : Nat → Nat} (hi : i < n) : (intsV (avL n av))[i]? = some (.int .i64 (av i : Int)) := by simp [intsV, avL, hi]
theorem avL_set {n i : Nat} {av : Nat → Nat} (hi : i < n) : (intsV (avL n av)).set i (.int .i64 ((av i + 1 : Nat) : Int)) = intsV (avL n (bump av i)) := by
  apply List.ext_getElem?
  intro j
  rw [List.getElem?_set]
  by_cases e : i = j
  · subst e
    rw [if_pos rfl, if_pos (by simpa [avL] using hi), avL_at hi]
    simp [bump]
  · rw [if_neg e]
    by_cases hj : j < n
    · rw [avL_at hj, avL_at hj]
      unfold bump
      rw [if_neg fun x => e x.symm]; rfl
    · simp [intsV, avL, hj]
theorem avL_zero (n : Nat) : intsV (avL n fun _ => 0) = List.replicate n (.int .i64 0) := by
  simp [intsV, avL, List.map_const']
/-- What the law's loop lives on. -/
structure Lf (h : AW) (μ : Paint) (ρ : Store) (I : IM) (m : MI) (qs : List Iw) (av : Nat → Nat) (ca : Nat) (ta aa pa : Option Addr) (pv : List Int) (room : Nat) : Prop where
  own : Own h μ ρ
  at_ : At ρ I m
  fit : Fit qs
  fi : FI tnm qs.length av m
  le : ∀ i, av i ≤ qlen qs i
  sl : m.slots.length = room
  r0 : 1 ≤ room ∧ room ≤ 64
  tt : ρ ca = some (.sl ta qs.length 1 (intsV (avL qs.length av)))
  nc : ca ∉ I.ns
  ask : AskV ρ (ca :: I.ns) qs aa
  pp : Vw ρ (ca :: I.ns) pa (intsV pv)
section
variable {I : IM} {m : MI} {qs : List Iw} {av : Nat → Nat} {ca room p : Nat} {ta aa pa : Option Addr} {pv : List Int}
theorem tinj {n : Nat} (hn : n ≤ 24) : ∀ i j, i < n → j < n → tnm i = tnm j → i = j := fun i j hi hj e => tn_inj (by omega) (by omega) e
theorem tne {n : Nat} (hn : n ≤ 24) : ∀ i, i < n → tnm i ≠ e0 := fun i hi => (tn_sub ⟨i, by omega⟩).2.2
theorem Lf.sz (L : Lf h μ ρ I m qs av ca ta aa pa pv room) : Sz m 101 :=
  L.fi.sz (tinj L.fit.n) (by have := L.fit.n; omega) (by have := L.sl; have := L.r0; omega) fun i => by have := L.le i; have := L.fit.ql i; omega
theorem Lf.carry (L : Lf h μ ρ I m qs av ca ta aa pa pv room) {h' : AW} {μ' : Paint} {ρ' : Store} {I' : IM} {m' : MI} {av' : Nat → Nat} (O' : Own h' μ' ρ') (A' : At ρ' I' m') (F : FrN I.ns ρ I'.ns ρ') (hf : FI tnm qs.length av m') (hs : m'.slots.length = m.slots.length) : Lf h' μ' ρ' I' m' qs av ca ta aa pa pv room :=
  ⟨O', A', L.fit, hf, L.le, hs.trans L.sl, L.r0, F.1 _ _ L.nc L.tt, (fun hm => by
    rcases F.2.1 ca hm with x | x
    · exact L.nc x
    · rw [L.tt] at x; cases x), L.ask.keepN (frnCons F), vw_keepN L.pp (frnCons F)⟩
theorem iwant_one {m : MI} {k : Str} (h0 : k ≠ e0) : iwant m [k] = (0, iwant1 m k) := by
  unfold iwant
  rw [if_neg]
  · rfl
  · rw [memB_iff]
    simpa using fun e => h0 e.symm
theorem nrm_nat {n : Nat} (hn : 0 < n) (z : Int) : ∃ k : Nat, k < n ∧ nrm n z = k := by
  have := nrm_range hn z
  exact ⟨(nrm n z).toNat, by omega, by omega⟩
theorem flow_28 {wv : List Int} {wa : Option Addr} {wc pc tc ac all : Nat} (hw : wv.length ≤ 40)
    (next : ∀ {h : AW} {μ : Paint} {ρ : Store} {I : IM} {m : MI}, I.p = p → Lf h μ ρ I m qs av ca ta aa pa pv room → Acy (mget m.tasks) →
      unitAt P f_brickyardlaw20_SchedFlows 34 [1, 3, 9, 10, 11, 12, 13, 19] [.slice aa qs.length ac, .slice pa pv.length pc, .int .i64 (qs.length : Int), .pointer (some ⟨p, 0, none⟩), .int .i64 (room : Int), .slice ta qs.length tc, .int .i64 (all : Int), .int .i64 0] h Q) :
    ∀ (d k : Nat) {h : AW} {μ : Paint} {ρ : Store} {I : IM} {m : MI}, wv.length - k = d → k ≤ wv.length → I.p = p → Lf h μ ρ I m qs av ca ta aa pa pv room → Acy (mget m.tasks) → Vw ρ (ca :: I.ns) wa (intsV wv) →
      unitAt P f_brickyardlaw20_SchedFlows 28 [1, 3, 9, 10, 11, 12, 13, 92, 93, 94] [.slice aa qs.length ac, .slice pa pv.length pc, .int .i64 (qs.length : Int), .pointer (some ⟨p, 0, none⟩), .int .i64 (room : Int), .slice ta qs.length tc, .int .i64 (all : Int), .slice wa wv.length wc, .int .i64 (wv.length : Int), .int .i64 (k : Int)] h Q := by
  intro d
  induction d with
  | zero =>
    intro k h μ ρ I m hd hk hp L A X
    have : k = wv.length := by omega
    subst this
    refine r_brickyardlaw20_SchedFlows_28 ?_
    rw [geI (Nat.le_refl _)]
    simp only [oB_some, bC_true, bC_false, vInt_int, vBool_bool, vStr_string, vPtr_pointer, vSl_slice, vMap_map, vFun_func, vAgg_agg, vTup_tuple, vIfc_nil, vIfc_iface, lC_cons, lN_nil, aP_some, shO_none, shO_some, Option.isNone_none, Option.isNone_some, Bool.not_true, Bool.not_false]
    exact next hp L A
  | succ d ih =>
    intro k h μ ρ I m hd hk hp L A X
    subst hp
    have hk1 : k < wv.length := by omega
    refine r_brickyardlaw20_SchedFlows_28 ?_
    rw [ltI hk1]
    simp only [oB_some, bC_true, bC_false, vInt_int, vBool_bool, vStr_string, vPtr_pointer, vSl_slice, vMap_map, vFun_func, vAgg_agg, vTup_tuple, vIfc_nil, vIfc_iface, lC_cons, lN_nil, aP_some, shO_none, shO_some, Option.isNone_none, Option.isNone_some, Bool.not_true, Bool.not_false]
    refine int_at L.own X rfl rfl hk1 ?_
    refine bC_iff (fun e => ?_) (fun e => ?_)
    · have h0 : 0 < qs.length := by have := of_decide_eq_true e; omega
      rw [show decide ((qs.length : Int) = 0) = false from decide_eq_false (by omega)]
      simp only [oB_some, bC_true, bC_false, vInt_int, vBool_bool, vStr_string, vPtr_pointer, vSl_slice, vMap_map, vFun_func, vAgg_agg, vTup_tuple, vIfc_nil, vIfc_iface, lC_cons, lN_nil, aP_some, shO_none, shO_some, Option.isNone_none, Option.isNone_some, Bool.not_true, Bool.not_false]
      obtain ⟨i, hi, ei⟩ := nrm_nat h0 wv[k]
      rw [show Int.tmod (if 0 > wv[k] then 0 else wv[k]) (qs.length : Int) = (i : Int) from ei]
      have hn := L.fit.n
      refine name6_ok (by omega) ?_
      simp only [oB_some, bC_true, bC_false, vInt_int, vBool_bool, vStr_string, vPtr_pointer, vSl_slice, vMap_map, vFun_func, vAgg_agg, vTup_tuple, vIfc_nil, vIfc_iface, lC_cons, lN_nil, aP_some, shO_none, shO_some, Option.isNone_none, Option.isNone_some, Bool.not_true, Bool.not_false]
      obtain ⟨μ2, ρ2, c2, O2, W2, hc2⟩ := w_block L.own L.at_.1 (strs [tnm i]) (n := 1) (sz := 1) rfl rfl
      have A2 : At ρ2 I m := ⟨W2.self.tail', L.at_.2⟩
      have F2 : FrN I.ns ρ I.ns ρ2 := FrN.of (W2.tail hc2).fra
      refine a_want (ks := [tnm i]) O2 A2 L.fi.ok L.sz (by simp) (Rd.of_sl O2 (pcs_notin W2) (W2.at_ 0 _ _ rfl rfl)) fun h3 μ3 ρ3 I3 O3 A3 p3 F3 => ?_
      rw [iwant_one (tne hn i hi)] at A3 ⊢
      have A3 : At ρ3 I3 (iwant1 m (tnm i)) := A3
      simp only [oB_some, bC_true, bC_false, vInt_int, vBool_bool, vStr_string, vPtr_pointer, vSl_slice, vMap_map, vFun_func, vAgg_agg, vTup_tuple, vIfc_nil, vIfc_iface, lC_cons, lN_nil, aP_some, shO_none, shO_some, Option.isNone_none, Option.isNone_some, Bool.not_true, Bool.not_false, show (((0 : Nat) : Int) != 0) = false from rfl]
      rw [wrapS (by omega)]
      have F23 := F2.trans F3
      exact ih (k + 1) (by omega) (by omega) p3 (L.carry (av' := av) O3 A3 F23 (fi_want1 L.fi hi (tne hn i hi)) (by rw [(iwant1_get).2.2])) (acy_want1 A _) (vw_keepN X (frnCons F23))
    · rw [wrapS (by omega)]
      exact ih (k + 1) (by omega) (by omega) rfl L A X
end
end Go.Proofs.YtgdkekdedgkglaaDoor
end

section
/- SchedFlows: the end; the slots counted; the circle looked at. -/
namespace Go.Proofs.YtgdkekdedgkglaaDoor
open Go.Abs Go.Abs.Sch
open Go.Abs.Fo (Vw)
set_option maxRecDepth 100000
attribute [local irreducible] unitAt EvQ
variable {h : AW} {μ : Paint} {ρ : Store} {Q : Value → AW → Prop}
variable {I : IM} {m : MI} {qs : List Iw} {av : Nat → Nat} {ca room p : Nat} {ta aa pa : Option Addr} {pv : List Int}
theorem ask_look (O : Own h μ ρ) {ns : List Nat} {a : Option Addr} {N j : Nat} {z : Int} (X : AskV ρ ns qs a) (hz : z = j) (hN : N = qs.length) (hj : j < qs.length) {f : Nat → Nat → Nat → Value → Prop}
    (H : ∀ i off, h.rd i (off + j * 1) = some qs[j].cell → f i off j qs[j].cell) : aP a fun i off => oB (natIdx z N) fun k => oB (h.rd i (off + k * 1)) fun v => f i off k v := by
  refine (X.top.sl O).ix (sz := 1) (n := N) hz (by simp [hN]) (by omega) (by omega) fun i off _ hr => ?_
  have h0 := hr 0 (by omega)
  have e : (qs.map Iw.cell)[j * 1 + 0]? = some qs[j].cell := by simp [hj]
  rw [e, Nat.add_zero] at h0
  rw [h0]
  exact H i off h0
theorem Lf.quiet (L : Lf h μ ρ I m qs av ca ta aa pa pv room) {h' : AW} {μ' : Paint} {ρ' : Store} (O' : Own h' μ' ρ') (F : Fra [] ρ ρ') : Lf h' μ' ρ' I m qs av ca ta aa pa pv room :=
  L.carry (av' := av) O' (L.at_.keep (FrN.of F) (by simp)) (FrN.of (fra_ns F)) L.fi rfl
theorem end_facts (L : Lf h μ ρ I m qs av ca ta aa pa pv room) (h4 : ∀ t, t ∈ m.tasks → t.st = 4) {i : Nat} (hi : i < qs.length) :
    (mst m.tasks (tnm i) = 4 ∧ 1 ≤ mstarts m.tasks (tnm i) ∧ mstarts m.tasks (tnm i) ≤ 1 + qs[i].x.length) ∨ (mst m.tasks (tnm i) = 0 ∧ mstarts m.tasks (tnm i) = 0) := by
  cases e : mget m.tasks (tnm i) with
  | none => right; unfold mst mstarts; rw [e]; exact ⟨rfl, rfl⟩
  | some t =>
    left
    have ht := h4 t (mget_mem' e)
    obtain ⟨x, y, _⟩ := L.fi.st i t hi e
    rw [if_pos (.inr ht)] at x
    have := L.le i
    rw [qlen_at hi] at this
    unfold mst mstarts
    rw [e]
    exact ⟨ht, y (by omega), by simp only; omega⟩
theorem flow_74 {ac : Nat} (hq : ∀ h, Q (.bool true) h) (L : Lf h μ ρ I m qs av ca ta aa pa pv room) (h4 : ∀ t, t ∈ m.tasks → t.st = 4) : ∀ (d i : Nat), qs.length - i = d → i ≤ qs.length →
    unitAt P f_brickyardlaw20_SchedFlows 74 [1, 10, 276, 277] [.slice aa qs.length ac, .pointer (some ⟨I.p, 0, none⟩), .int .i64 (qs.length : Int), .int .i64 (i : Int)] h Q := by
  intro d
  induction d with
  | zero =>
    intro i hd hi
    have : i = qs.length := by omega
    subst this
    refine r_brickyardlaw20_SchedFlows_74 ?_
    rw [geI (Nat.le_refl _)]
    simp only [oB_some, bC_true, bC_false, vInt_int, vBool_bool, vStr_string, vPtr_pointer, vSl_slice, vMap_map, vFun_func, vAgg_agg, vTup_tuple, vIfc_nil, vIfc_iface, lC_cons, lN_nil, aP_some, shO_none, shO_some, Option.isNone_none, Option.isNone_some, Bool.not_true, Bool.not_false]
    exact hq _
  | succ d ih =>
    intro i hd hi
    have hi1 : i < qs.length := by omega
    have hn := L.fit.n
    have h8 := L.fit.l _ (List.getElem_mem hi1)
    refine r_brickyardlaw20_SchedFlows_74 ?_
    rw [ltI hi1]
    simp only [oB_some, bC_true, bC_false, vInt_int, vBool_bool, vStr_string, vPtr_pointer, vSl_slice, vMap_map, vFun_func, vAgg_agg, vTup_tuple, vIfc_nil, vIfc_iface, lC_cons, lN_nil, aP_some, shO_none, shO_some, Option.isNone_none, Option.isNone_some, Bool.not_true, Bool.not_false]
    refine name6_ok (by omega) ?_
    simp only [oB_some, bC_true, bC_false, vInt_int, vBool_bool, vStr_string, vPtr_pointer, vSl_slice, vMap_map, vFun_func, vAgg_agg, vTup_tuple, vIfc_nil, vIfc_iface, lC_cons, lN_nil, aP_some, shO_none, shO_some, Option.isNone_none, Option.isNone_some, Bool.not_true, Bool.not_false]
    refine a_state L.own L.at_ ?_
    rcases end_facts L h4 hi1 with ⟨e1, e2, e3⟩ | ⟨e1, e2⟩
    · rw [e1]
      simp only [oB_some, bC_true, bC_false, vInt_int, vBool_bool, vStr_string, vPtr_pointer, vSl_slice, vMap_map, vFun_func, vAgg_agg, vTup_tuple, vIfc_nil, vIfc_iface, lC_cons, lN_nil, aP_some, shO_none, shO_some, Option.isNone_none, Option.isNone_some, Bool.not_true, Bool.not_false, show (((4 : Nat) : Int) != 4) = false from rfl]
      refine name6_ok (by omega) ?_
      simp only [oB_some, bC_true, bC_false, vInt_int, vBool_bool, vStr_string, vPtr_pointer, vSl_slice, vMap_map, vFun_func, vAgg_agg, vTup_tuple, vIfc_nil, vIfc_iface, lC_cons, lN_nil, aP_some, shO_none, shO_some, Option.isNone_none, Option.isNone_some, Bool.not_true, Bool.not_false]
      refine a_starts L.own L.at_ ?_
      simp only [oB_some, bC_true, bC_false, vInt_int, vBool_bool, vStr_string, vPtr_pointer, vSl_slice, vMap_map, vFun_func, vAgg_agg, vTup_tuple, vIfc_nil, vIfc_iface, lC_cons, lN_nil, aP_some, shO_none, shO_some, Option.isNone_none, Option.isNone_some, Bool.not_true, Bool.not_false]
      refine ask_look L.own L.ask rfl rfl hi1 fun b off hr => ?_
      simp only [oB_some, bC_true, bC_false, vInt_int, vBool_bool, vStr_string, vPtr_pointer, vSl_slice, vMap_map, vFun_func, vAgg_agg, vTup_tuple, vIfc_nil, vIfc_iface, lC_cons, lN_nil, aP_some, shO_none, shO_some, Option.isNone_none, Option.isNone_some, Bool.not_true, Bool.not_false, Iw.cell]
      rw [wrap_small (n := 1 + (qs[i].x.length : Int)) (by omega) (by omega), show decide ((mstarts m.tasks (tnm i) : Int) > 1 + (qs[i].x.length : Int)) = false from decide_eq_false (by omega)]
      simp only [oB_some, bC_true, bC_false, vInt_int, vBool_bool, vStr_string, vPtr_pointer, vSl_slice, vMap_map, vFun_func, vAgg_agg, vTup_tuple, vIfc_nil, vIfc_iface, lC_cons, lN_nil, aP_some, shO_none, shO_some, Option.isNone_none, Option.isNone_some, Bool.not_true, Bool.not_false]
      refine name6_ok (by omega) ?_
      simp only [oB_some, bC_true, bC_false, vInt_int, vBool_bool, vStr_string, vPtr_pointer, vSl_slice, vMap_map, vFun_func, vAgg_agg, vTup_tuple, vIfc_nil, vIfc_iface, lC_cons, lN_nil, aP_some, shO_none, shO_some, Option.isNone_none, Option.isNone_some, Bool.not_true, Bool.not_false]
      refine a_starts L.own L.at_ ?_
      simp only [oB_some, bC_true, bC_false, vInt_int, vBool_bool, vStr_string, vPtr_pointer, vSl_slice, vMap_map, vFun_func, vAgg_agg, vTup_tuple, vIfc_nil, vIfc_iface, lC_cons, lN_nil, aP_some, shO_none, shO_some, Option.isNone_none, Option.isNone_some, Bool.not_true, Bool.not_false, hr, Iw.cell, true_and]
      rw [show (((4 : Nat) : Int) == 0) = false from rfl, show ((mstarts m.tasks (tnm i) : Int) == 0) = false from by simp; omega, wrapS (by omega)]
      exact ih (i + 1) (by omega) (by omega)
    · rw [e1]
      simp only [oB_some, bC_true, bC_false, vInt_int, vBool_bool, vStr_string, vPtr_pointer, vSl_slice, vMap_map, vFun_func, vAgg_agg, vTup_tuple, vIfc_nil, vIfc_iface, lC_cons, lN_nil, aP_some, shO_none, shO_some, Option.isNone_none, Option.isNone_some, Bool.not_true, Bool.not_false, show (((0 : Nat) : Int) != 4) = true from rfl, show (((0 : Nat) : Int) != 0) = false from rfl]
      refine name6_ok (by omega) ?_
      simp only [oB_some, bC_true, bC_false, vInt_int, vBool_bool, vStr_string, vPtr_pointer, vSl_slice, vMap_map, vFun_func, vAgg_agg, vTup_tuple, vIfc_nil, vIfc_iface, lC_cons, lN_nil, aP_some, shO_none, shO_some, Option.isNone_none, Option.isNone_some, Bool.not_true, Bool.not_false]
      refine a_starts L.own L.at_ ?_
      rw [e2]
      simp only [oB_some, bC_true, bC_false, vInt_int, vBool_bool, vStr_string, vPtr_pointer, vSl_slice, vMap_map, vFun_func, vAgg_agg, vTup_tuple, vIfc_nil, vIfc_iface, lC_cons, lN_nil, aP_some, shO_none, shO_some, Option.isNone_none, Option.isNone_some, Bool.not_true, Bool.not_false]
      refine ask_look L.own L.ask rfl rfl hi1 fun b off hr => ?_
      simp only [oB_some, bC_true, bC_false, vInt_int, vBool_bool, vStr_string, vPtr_pointer, vSl_slice, vMap_map, vFun_func, vAgg_agg, vTup_tuple, vIfc_nil, vIfc_iface, lC_cons, lN_nil, aP_some, shO_none, shO_some, Option.isNone_none, Option.isNone_some, Bool.not_true, Bool.not_false, Iw.cell]
      rw [wrap_small (n := 1 + (qs[i].x.length : Int)) (by omega) (by omega), show decide (((0 : Nat) : Int) > 1 + (qs[i].x.length : Int)) = false from decide_eq_false (by omega)]
      simp only [oB_some, bC_true, bC_false, vInt_int, vBool_bool, vStr_string, vPtr_pointer, vSl_slice, vMap_map, vFun_func, vAgg_agg, vTup_tuple, vIfc_nil, vIfc_iface, lC_cons, lN_nil, aP_some, shO_none, shO_some, Option.isNone_none, Option.isNone_some, Bool.not_true, Bool.not_false]
      refine name6_ok (by omega) ?_
      simp only [oB_some, bC_true, bC_false, vInt_int, vBool_bool, vStr_string, vPtr_pointer, vSl_slice, vMap_map, vFun_func, vAgg_agg, vTup_tuple, vIfc_nil, vIfc_iface, lC_cons, lN_nil, aP_some, shO_none, shO_some, Option.isNone_none, Option.isNone_some, Bool.not_true, Bool.not_false]
      refine a_starts L.own L.at_ ?_
      rw [e2]
      simp only [oB_some, bC_true, bC_false, vInt_int, vBool_bool, vStr_string, vPtr_pointer, vSl_slice, vMap_map, vFun_func, vAgg_agg, vTup_tuple, vIfc_nil, vIfc_iface, lC_cons, lN_nil, aP_some, shO_none, shO_some, Option.isNone_none, Option.isNone_some, Bool.not_true, Bool.not_false, hr, Iw.cell, true_and]
      rw [show (((0 : Nat) : Int) == 0) = true from rfl, wrapS (by omega)]
      exact ih (i + 1) (by omega) (by omega)
/-- The slots are counted. -/
theorem flow_66 {ac pc tc all step oc co : Nat} {oa : Option Addr} (hst : step ≤ 1000) (L : Lf h μ ρ I m qs av ca ta aa pa pv room) (hco : ρ co = some (.sl oa oc 1 (strs m.slots)))
    (next : ∀ {h : AW} {μ : Paint} {ρ : Store}, Lf h μ ρ I m qs av ca ta aa pa pv room →
      unitAt P f_brickyardlaw20_SchedFlows 34 [1, 3, 9, 10, 11, 12, 13, 19] [.slice aa qs.length ac, .slice pa pv.length pc, .int .i64 (qs.length : Int), .pointer (some ⟨I.p, 0, none⟩), .int .i64 (room : Int), .slice ta qs.length tc, .int .i64 (all : Int), .int .i64 ((step + 1 : Nat) : Int)] h Q) :
    ∀ (d k b : Nat), m.slots.length - k = d → k ≤ m.slots.length → b ≤ k →
      unitAt P f_brickyardlaw20_SchedFlows 66 [1, 3, 9, 10, 11, 12, 13, 19, 30, 255, 256, 257] [.slice aa qs.length ac, .slice pa pv.length pc, .int .i64 (qs.length : Int), .pointer (some ⟨I.p, 0, none⟩), .int .i64 (room : Int), .slice ta qs.length tc, .int .i64 (all : Int), .int .i64 (step : Int), .int .i64 (b : Int), .slice oa m.slots.length oc, .int .i64 (m.slots.length : Int), .int .i64 (k : Int)] h Q := by
  have hsl := L.sl
  have hr := L.r0
  intro d
  induction d with
  | zero =>
    intro k b hd hk hb
    have : k = m.slots.length := by omega
    subst this
    refine r_brickyardlaw20_SchedFlows_66 ?_
    rw [geI (Nat.le_refl _), show decide ((b : Int) > (room : Int)) = false from decide_eq_false (by omega)]
    simp only [oB_some, bC_true, bC_false, vInt_int, vBool_bool, vStr_string, vPtr_pointer, vSl_slice, vMap_map, vFun_func, vAgg_agg, vTup_tuple, vIfc_nil, vIfc_iface, lC_cons, lN_nil, aP_some, shO_none, shO_some, Option.isNone_none, Option.isNone_some, Bool.not_true, Bool.not_false]
    refine a_slots L.own L.at_ L.sz fun h1 μ1 ρ1 c1 a1 cap1 O1 W1 hc1 => ?_
    simp only [oB_some, bC_true, bC_false, vInt_int, vBool_bool, vStr_string, vPtr_pointer, vSl_slice, vMap_map, vFun_func, vAgg_agg, vTup_tuple, vIfc_nil, vIfc_iface, lC_cons, lN_nil, aP_some, shO_none, shO_some, Option.isNone_none, Option.isNone_some, Bool.not_true, Bool.not_false]
    rw [hsl, show ((room : Int) != (room : Int)) = false from by simp]
    simp only [oB_some, bC_true, bC_false, vInt_int, vBool_bool, vStr_string, vPtr_pointer, vSl_slice, vMap_map, vFun_func, vAgg_agg, vTup_tuple, vIfc_nil, vIfc_iface, lC_cons, lN_nil, aP_some, shO_none, shO_some, Option.isNone_none, Option.isNone_some, Bool.not_true, Bool.not_false]
    rw [wrapS (by omega)]
    exact next (L.quiet O1 (W1.fra0 fun d hd => by simp at hd; rw [hd]; exact hc1))
  | succ d ih =>
    intro k b hd hk hb
    have hk1 : k < m.slots.length := by omega
    refine r_brickyardlaw20_SchedFlows_66 ?_
    rw [ltI hk1]
    simp only [oB_some, bC_true, bC_false, vInt_int, vBool_bool, vStr_string, vPtr_pointer, vSl_slice, vMap_map, vFun_func, vAgg_agg, vTup_tuple, vIfc_nil, vIfc_iface, lC_cons, lN_nil, aP_some, shO_none, shO_some, Option.isNone_none, Option.isNone_some, Bool.not_true, Bool.not_false]
    refine (L.own.sl hco).i1 (v := .string m.slots[k]) rfl (by simp) (by simp [hk1]) ?_
    simp only [oB_some, bC_true, bC_false, vInt_int, vBool_bool, vStr_string, vPtr_pointer, vSl_slice, vMap_map, vFun_func, vAgg_agg, vTup_tuple, vIfc_nil, vIfc_iface, lC_cons, lN_nil, aP_some, shO_none, shO_some, Option.isNone_none, Option.isNone_some, Bool.not_true, Bool.not_false]
    refine bC_iff (fun e => ?_) (fun e => ?_)
    · rw [wrapS (by omega), wrapS (by omega)]
      exact ih (k + 1) (b + 1) (by omega) (by omega) (by omega)
    · rw [wrapS (by omega)]
      exact ih (k + 1) b (by omega) (by omega) (by omega)
/-- The circle is looked at, and broken. -/
theorem flow_57 {ac pc tc all step oc co i : Nat} {oa : Option Addr} {x : List Str} (hst : step ≤ 1000) (hx : x.length ≤ 1000) (L : Lf h μ ρ I m qs av ca ta aa pa pv room) (hco : ρ co = some (.sl oa oc 1 (strs x)))
    (hc : (x = [] ∧ Acy (mget m.tasks)) ∨ ∃ h : 0 < x.length, x.Nodup ∧ tnm i ∈ x ∧ (∀ c, c ∈ x → mst m.tasks c = 3 ∧ less c x[0] = false) ∧ Acy (mget (idone m x[0]).2.tasks))
    (next : ∀ {h : AW} {μ : Paint} {ρ : Store} {I' : IM} {m' : MI}, I'.p = I.p → Lf h μ ρ I' m' qs av ca ta aa pa pv room → Acy (mget m'.tasks) → (∀ k, mst m.tasks k = 4 → mst m'.tasks k = 4) →
      unitAt P f_brickyardlaw20_SchedFlows 34 [1, 3, 9, 10, 11, 12, 13, 19] [.slice aa qs.length ac, .slice pa pv.length pc, .int .i64 (qs.length : Int), .pointer (some ⟨I.p, 0, none⟩), .int .i64 (room : Int), .slice ta qs.length tc, .int .i64 (all : Int), .int .i64 ((step + 1 : Nat) : Int)] h Q) :
    ∀ (d k : Nat), x.length - k = d → k ≤ x.length →
      unitAt P f_brickyardlaw20_SchedFlows 57 [1, 3, 9, 10, 11, 12, 13, 19, 21, 26, 211, 212, 213] [.slice aa qs.length ac, .slice pa pv.length pc, .int .i64 (qs.length : Int), .pointer (some ⟨I.p, 0, none⟩), .int .i64 (room : Int), .slice ta qs.length tc, .int .i64 (all : Int), .int .i64 (step : Int), .string (tnm i), .slice oa x.length oc, .slice oa x.length oc, .int .i64 (x.length : Int), .int .i64 (k : Int)] h Q := by
  have M : OM h μ co oa oc 1 _ := L.own.holds _ _ hco
  have hcap : x.length ≤ oc := by have := M.le; simp at this; omega
  intro d
  induction d with
  | zero =>
    intro k hd hk
    have : k = x.length := by omega
    subst this
    refine r_brickyardlaw20_SchedFlows_57 ?_
    rw [geI (Nat.le_refl _)]
    simp only [oB_some, bC_true, bC_false, vInt_int, vBool_bool, vStr_string, vPtr_pointer, vSl_slice, vMap_map, vFun_func, vAgg_agg, vTup_tuple, vIfc_nil, vIfc_iface, lC_cons, lN_nil, aP_some, shO_none, shO_some, Option.isNone_none, Option.isNone_some, Bool.not_true, Bool.not_false]
    rcases hc with ⟨rfl, A⟩ | ⟨h0, hnd, hm, hs, A⟩
    · rw [show (((([] : List Str).length : Nat) : Int) != 0) = false from rfl]
      simp only [oB_some, bC_true, bC_false, vInt_int, vBool_bool, vStr_string, vPtr_pointer, vSl_slice, vMap_map, vFun_func, vAgg_agg, vTup_tuple, vIfc_nil, vIfc_iface, lC_cons, lN_nil, aP_some, shO_none, shO_some, Option.isNone_none, Option.isNone_some, Bool.not_true, Bool.not_false]
      refine a_slots L.own L.at_ L.sz fun h1 μ1 ρ1 c1 a1 cap1 O1 W1 hc1 => ?_
      simp only [oB_some, bC_true, bC_false, vInt_int, vBool_bool, vStr_string, vPtr_pointer, vSl_slice, vMap_map, vFun_func, vAgg_agg, vTup_tuple, vIfc_nil, vIfc_iface, lC_cons, lN_nil, aP_some, shO_none, shO_some, Option.isNone_none, Option.isNone_some, Bool.not_true, Bool.not_false]
      have L1 := L.quiet O1 (W1.fra0 fun d hd => by simp at hd; rw [hd]; exact hc1)
      exact flow_66 hst L1 (W1.at_ 0 _ _ rfl rfl) (fun L2 => next rfl L2 A fun _ x => x) _ 0 0 rfl (Nat.zero_le _) (Nat.le_refl _)
    · rw [show ((x.length : Int) != 0) = true from by simp; intro e; rw [e] at h0; simp at h0]
      simp only [oB_some, bC_true, bC_false, vInt_int, vBool_bool, vStr_string, vPtr_pointer, vSl_slice, vMap_map, vFun_func, vAgg_agg, vTup_tuple, vIfc_nil, vIfc_iface, lC_cons, lN_nil, aP_some, shO_none, shO_some, Option.isNone_none, Option.isNone_some, Bool.not_true, Bool.not_false]
      refine contains_ok (L.own.sl hco) (by omega) ?_
      rw [memB_iff.2 hm]
      simp only [oB_some, bC_true, bC_false, vInt_int, vBool_bool, vStr_string, vPtr_pointer, vSl_slice, vMap_map, vFun_func, vAgg_agg, vTup_tuple, vIfc_nil, vIfc_iface, lC_cons, lN_nil, aP_some, shO_none, shO_some, Option.isNone_none, Option.isNone_some, Bool.not_true, Bool.not_false]
      refine (L.own.sl hco).i1 (j := 0) (v := .string x[0]) rfl (by simp) (by simp [h0]) ?_
      simp only [oB_some, bC_true, bC_false, vInt_int, vBool_bool, vStr_string, vPtr_pointer, vSl_slice, vMap_map, vFun_func, vAgg_agg, vTup_tuple, vIfc_nil, vIfc_iface, lC_cons, lN_nil, aP_some, shO_none, shO_some, Option.isNone_none, Option.isNone_some, Bool.not_true, Bool.not_false]
      obtain ⟨t0, ht0, hst0⟩ := mst_some (hs x[0] (List.getElem_mem h0)).1 (by omega)
      obtain ⟨d1, d2, d3, d4, _, _⟩ := fi_done L.fi ht0 (.inr hst0)
      refine a_done L.own L.at_ L.fi.ok L.sz fun h2 μ2 ρ2 I2 O2 A2 p2 F2 => ?_
      rw [d1]
      simp only [oB_some, bC_true, bC_false, vInt_int, vBool_bool, vStr_string, vPtr_pointer, vSl_slice, vMap_map, vFun_func, vAgg_agg, vTup_tuple, vIfc_nil, vIfc_iface, lC_cons, lN_nil, aP_some, shO_none, shO_some, Option.isNone_none, Option.isNone_some, Bool.not_true, Bool.not_false, show (((0 : Nat) : Int) != 0) = false from rfl]
      have L2 := L.carry (av' := av) O2 A2 F2 d2 d3
      rw [← p2]
      refine a_slots L2.own L2.at_ L2.sz fun h1 μ1 ρ1 c1 a1 cap1 O1 W1 hc1 => ?_
      simp only [oB_some, bC_true, bC_false, vInt_int, vBool_bool, vStr_string, vPtr_pointer, vSl_slice, vMap_map, vFun_func, vAgg_agg, vTup_tuple, vIfc_nil, vIfc_iface, lC_cons, lN_nil, aP_some, shO_none, shO_some, Option.isNone_none, Option.isNone_some, Bool.not_true, Bool.not_false]
      have L1 := L2.quiet O1 (W1.fra0 fun d hd => by simp at hd; rw [hd]; exact hc1)
      exact flow_66 hst L1 (W1.at_ 0 _ _ rfl rfl) (fun L3 => by have := next p2 L3 A d4; rw [← p2] at this; exact this) _ 0 0 rfl (Nat.zero_le _) (Nat.le_refl _)
  | succ d ih =>
    intro k hd hk
    have hk1 : k < x.length := by omega
    rcases hc with ⟨rfl, A⟩ | ⟨h0, hnd, hm, hs, A⟩
    · simp at hk1
    refine r_brickyardlaw20_SchedFlows_57 ?_
    rw [ltI hk1]
    simp only [oB_some, bC_true, bC_false, vInt_int, vBool_bool, vStr_string, vPtr_pointer, vSl_slice, vMap_map, vFun_func, vAgg_agg, vTup_tuple, vIfc_nil, vIfc_iface, lC_cons, lN_nil, aP_some, shO_none, shO_some, Option.isNone_none, Option.isNone_some, Bool.not_true, Bool.not_false]
    refine (L.own.sl hco).i1 (v := .string x[k]) rfl (by simp) (by simp [hk1]) ?_
    simp only [oB_some, bC_true, bC_false, vInt_int, vBool_bool, vStr_string, vPtr_pointer, vSl_slice, vMap_map, vFun_func, vAgg_agg, vTup_tuple, vIfc_nil, vIfc_iface, lC_cons, lN_nil, aP_some, shO_none, shO_some, Option.isNone_none, Option.isNone_some, Bool.not_true, Bool.not_false]
    obtain ⟨s3, sl⟩ := hs x[k] (List.getElem_mem hk1)
    refine a_state L.own L.at_ ?_
    rw [s3]
    simp only [oB_some, bC_true, bC_false, vInt_int, vBool_bool, vStr_string, vPtr_pointer, vSl_slice, vMap_map, vFun_func, vAgg_agg, vTup_tuple, vIfc_nil, vIfc_iface, lC_cons, lN_nil, aP_some, shO_none, shO_some, Option.isNone_none, Option.isNone_some, Bool.not_true, Bool.not_false, show (((3 : Nat) : Int) != 3) = false from rfl]
    refine (L.own.sl hco).i1 (j := 0) (v := .string x[0]) rfl (by simp) (by simp [h0]) ?_
    simp only [oB_some, bC_true, bC_false, vInt_int, vBool_bool, vStr_string, vPtr_pointer, vSl_slice, vMap_map, vFun_func, vAgg_agg, vTup_tuple, vIfc_nil, vIfc_iface, lC_cons, lN_nil, aP_some, shO_none, shO_some, Option.isNone_none, Option.isNone_some, Bool.not_true, Bool.not_false]
    rw [show Op.bytesLess x[k].data.toList x[0].data.toList = false from sl]
    simp only [oB_some, bC_true, bC_false, vInt_int, vBool_bool, vStr_string, vPtr_pointer, vSl_slice, vMap_map, vFun_func, vAgg_agg, vTup_tuple, vIfc_nil, vIfc_iface, lC_cons, lN_nil, aP_some, shO_none, shO_some, Option.isNone_none, Option.isNone_some, Bool.not_true, Bool.not_false]
    rw [natBnd_eq (by omega)]
    simp only [oB_some, bC_true, bC_false, vInt_int, vBool_bool, vStr_string, vPtr_pointer, vSl_slice, vMap_map, vFun_func, vAgg_agg, vTup_tuple, vIfc_nil, vIfc_iface, lC_cons, lN_nil, aP_some, shO_none, shO_some, Option.isNone_none, Option.isNone_some, Bool.not_true, Bool.not_false]
    rw [Nat.ble_eq_true_of_le (by omega)]
    simp only [oB_some, bC_true, bC_false, vInt_int, vBool_bool, vStr_string, vPtr_pointer, vSl_slice, vMap_map, vFun_func, vAgg_agg, vTup_tuple, vIfc_nil, vIfc_iface, lC_cons, lN_nil, aP_some, shO_none, shO_some, Option.isNone_none, Option.isNone_some, Bool.not_true, Bool.not_false]
    refine (L.own.sl hco).from 0 fun a' X' => ?_
    have X2 : Sl h a' (strs (x.take k)) := by
      have := X'.take k
      rw [List.drop_zero] at this
      simpa [List.map_take] using this
    rw [show k - 0 = (x.take k).length from by simp; omega]
    refine contains_ok X2 (by simp; omega) ?_
    have hnk : x[k] ∉ x.take k := fun hmem => by
      obtain ⟨j, hj, e⟩ := List.getElem_of_mem hmem
      simp at hj
      rw [List.getElem_take] at e
      exact absurd ((List.getElem_inj hnd).1 e) (by omega)
    rw [memB_not.2 hnk]
    simp only [oB_some, bC_true, bC_false, vInt_int, vBool_bool, vStr_string, vPtr_pointer, vSl_slice, vMap_map, vFun_func, vAgg_agg, vTup_tuple, vIfc_nil, vIfc_iface, lC_cons, lN_nil, aP_some, shO_none, shO_some, Option.isNone_none, Option.isNone_some, Bool.not_true, Bool.not_false]
    rw [wrapS (by omega)]
    exact ih (k + 1) (by omega) (by omega)
end Go.Proofs.YtgdkekdedgkglaaDoor
end

section
/- SchedFlows: one turn of its loop, the loop, the whole. -/
namespace Go.Proofs.YtgdkekdedgkglaaDoor
open Go.Abs Go.Abs.Sch
open Go.Abs.Fo (Vw)
set_option maxRecDepth 100000
attribute [local irreducible] unitAt EvQ
variable {h : AW} {μ : Paint} {ρ : Store} {Q : Value → AW → Prop}
variable {I : IM} {m : MI} {qs : List Iw} {av : Nat → Nat} {ca room p : Nat} {ta aa pa : Option Addr} {pv : List Int}
theorem dcnt_mono {nm : Nat → Str} {n : Nat} {m m' : MI} (h : ∀ k, mst m.tasks k = 4 → mst m'.tasks k = 4) : dcnt nm n m ≤ dcnt nm n m' := by
  unfold dcnt
  exact cnt_le _ fun i _ e => by simp at e ⊢; exact h _ e
theorem dcnt_more {nm : Nat → Str} {n : Nat} {m m' : MI} (h : ∀ k, mst m.tasks k = 4 → mst m'.tasks k = 4) {i : Nat} (hi : i < n) (h1 : mst m.tasks (nm i) ≠ 4) (h2 : mst m'.tasks (nm i) = 4) : dcnt nm n m + 1 ≤ dcnt nm n m' := by
  unfold dcnt
  exact cnt_lt (y := i) (fun i _ e => by simp at e ⊢; exact h _ e) (List.mem_range.2 hi) (by simpa using h1) (by simpa using h2)
theorem fill_ex : ∀ (d : Nat) {m : MI} (_ : IOk m) (out : List Str) (i : Nat), (∃ t, t ∈ m.tasks ∧ t.st ≠ 4) → ∃ t, t ∈ (ifillFrom d m out i).1.tasks ∧ t.st ≠ 4
  | 0, m, K, out, i, h => h
  | d + 1, m, K, out, i, h => by
    refine fill_ex d (iok_fillAt K) _ _ ?_
    rcases fillAt_get m out i with ⟨e, _⟩ | ⟨k, q, hq, e⟩
    · rw [e]; exact h
    · obtain ⟨tk, htk, hst⟩ := K.ig.q1 k (by rw [hq]; simp)
      have : mget (ifillAt m out i).1.tasks k = some { tk with st := 2, starts := tk.starts + 1 } := by rw [e, gupd_same htk]
      exact ⟨_, mget_mem' this, by simp⟩
/-- The next turn's state. -/
def Nx (p : Nat) (qs : List Iw) (ca room : Nat) (ta aa pa : Option Addr) (pv : List Int) (Q : Value → AW → Prop) (ac pc tc all lim : Nat) : Prop :=
  ∀ {h : AW} {μ : Paint} {ρ : Store} {I : IM} {m : MI} {av : Nat → Nat} {step : Nat}, I.p = p → Lf h μ ρ I m qs av ca ta aa pa pv room → Acy (mget m.tasks) → lim ≤ dcnt tnm qs.length m + sumN av qs.length → step ≤ dcnt tnm qs.length m + sumN av qs.length →
    unitAt P f_brickyardlaw20_SchedFlows 34 [1, 3, 9, 10, 11, 12, 13, 19] [.slice aa qs.length ac, .slice pa pv.length pc, .int .i64 (qs.length : Int), .pointer (some ⟨p, 0, none⟩), .int .i64 (room : Int), .slice ta qs.length tc, .int .i64 (all : Int), .int .i64 (step : Int)] h Q
theorem flow_42 {ac pc tc all step lim : Nat} (hst : step ≤ 900) (L : Lf h μ ρ I m qs av ca ta aa pa pv room) (A : Acy (mget m.tasks)) (hex : ∃ t, t ∈ m.tasks ∧ t.st ≠ 4) (hf : ∀ j, j < m.slots.length → m.slots[j]? = some e0 → m.queue = [])
    (hlim : lim ≤ dcnt tnm qs.length m + sumN av qs.length + 1) (hstp : step ≤ dcnt tnm qs.length m + sumN av qs.length)
    (next : Nx I.p qs ca room ta aa pa pv Q ac pc tc all lim) (pick : Int) :
    unitAt P f_brickyardlaw20_SchedFlows 42 [1, 3, 9, 10, 11, 12, 13, 19, 20] [.slice aa qs.length ac, .slice pa pv.length pc, .int .i64 (qs.length : Int), .pointer (some ⟨I.p, 0, none⟩), .int .i64 (room : Int), .slice ta qs.length tc, .int .i64 (all : Int), .int .i64 (step : Int), .int .i64 pick] h Q := by
  have hn := L.fit.n
  have h0 : 0 < m.slots.length := by have := L.sl; have := L.r0; omega
  obtain ⟨i, t, hi, hp, ht, h2⟩ := pick_of L.fi A h0 hf hex pick
  have h8 := L.fit.l _ (List.getElem_mem hi)
  refine r_brickyardlaw20_SchedFlows_42 ?_
  refine a_pick L.own L.at_ L.fi.ok L.sz h0 fun h1 μ1 ρ1 O1 A1 F1 => ?_
  have L1 := L.carry (av' := av) O1 A1 F1 L.fi rfl
  rw [show ipickV m.slots pick = .tuple ⟨[.string (tnm i), .bool true]⟩ from by unfold ipickV; rw [hp]]
  simp only [oB_some, bC_true, bC_false, vInt_int, vBool_bool, vStr_string, vPtr_pointer, vSl_slice, vMap_map, vFun_func, vAgg_agg, vTup_tuple, vIfc_nil, vIfc_iface, lC_cons, lN_nil, aP_some, shO_none, shO_some, Option.isNone_none, Option.isNone_some, Bool.not_true, Bool.not_false]
  refine a_state L1.own L1.at_ ?_
  rw [mst_of ht, h2]
  simp only [oB_some, bC_true, bC_false, vInt_int, vBool_bool, vStr_string, vPtr_pointer, vSl_slice, vMap_map, vFun_func, vAgg_agg, vTup_tuple, vIfc_nil, vIfc_iface, lC_cons, lN_nil, aP_some, shO_none, shO_some, Option.isNone_none, Option.isNone_some, Bool.not_true, Bool.not_false, show (((2 : Nat) : Int) != 2) = false from rfl]
  have hsz : 1 ≤ (tnm i).size := (tn_sub ⟨i, by omega⟩).2.1
  rw [show natBnd 1 (tnm i).size = some 1 from natBnd_eq (j := 1) hsz]
  simp only [oB_some, bC_true, bC_false, vInt_int, vBool_bool, vStr_string, vPtr_pointer, vSl_slice, vMap_map, vFun_func, vAgg_agg, vTup_tuple, vIfc_nil, vIfc_iface, lC_cons, lN_nil, aP_some, shO_none, shO_some, Option.isNone_none, Option.isNone_some, Bool.not_true, Bool.not_false]
  rw [show bSub (tnm i) 1 (tnm i).size = dig6 i from (tn_sub ⟨i, by omega⟩).1]
  obtain ⟨n1, n2, n3⟩ := tn_num ⟨i, by omega⟩
  refine atoi_ok L1.own n2 n3 n1 fun h3 μ3 ρ3 O3 F3 => ?_
  have L3 := L1.quiet O3 F3
  simp only [oB_some, bC_true, bC_false, vInt_int, vBool_bool, vStr_string, vPtr_pointer, vSl_slice, vMap_map, vFun_func, vAgg_agg, vTup_tuple, vIfc_nil, vIfc_iface, lC_cons, lN_nil, aP_some, shO_none, shO_some, Option.isNone_none, Option.isNone_some, Bool.not_true, Bool.not_false]
  rw [show decide ((i : Int) < 0) = false from decide_eq_false (by omega), show decide ((i : Int) ≥ (qs.length : Int)) = false from decide_eq_false (by omega)]
  simp only [oB_some, bC_true, bC_false, vInt_int, vBool_bool, vStr_string, vPtr_pointer, vSl_slice, vMap_map, vFun_func, vAgg_agg, vTup_tuple, vIfc_nil, vIfc_iface, lC_cons, lN_nil, aP_some, shO_none, shO_some, Option.isNone_none, Option.isNone_some, Bool.not_true, Bool.not_false]
  refine (L3.own.sl L3.tt).i1 (j := i) (v := .int .i64 (av i : Int)) rfl (by simp [avL]) (avL_at hi) ?_
  simp only [oB_some, bC_true, bC_false, vInt_int, vBool_bool, vStr_string, vPtr_pointer, vSl_slice, vMap_map, vFun_func, vAgg_agg, vTup_tuple, vIfc_nil, vIfc_iface, lC_cons, lN_nil, aP_some, shO_none, shO_some, Option.isNone_none, Option.isNone_some, Bool.not_true, Bool.not_false]
  refine ask_at L3.own L3.ask rfl rfl hi ?_
  have hle := L.le i
  rw [qlen_at hi] at hle
  by_cases ed : av i = qs[i].x.length
  · rw [ed, show ((qs[i].x.length : Int) == (qs[i].x.length : Int)) = true from by simp]
    simp only [oB_some, bC_true, bC_false, vInt_int, vBool_bool, vStr_string, vPtr_pointer, vSl_slice, vMap_map, vFun_func, vAgg_agg, vTup_tuple, vIfc_nil, vIfc_iface, lC_cons, lN_nil, aP_some, shO_none, shO_some, Option.isNone_none, Option.isNone_some, Bool.not_true, Bool.not_false]
    obtain ⟨d1, d2, d3, d4, d5, _⟩ := fi_done L3.fi ht (.inl h2)
    have d6 := acy_done L3.fi A ht (.inl h2)
    refine a_done L3.own L3.at_ L3.fi.ok L3.sz fun h4 μ4 ρ4 I4 O4 A4 p4 F4 => ?_
    rw [d1]
    simp only [oB_some, bC_true, bC_false, vInt_int, vBool_bool, vStr_string, vPtr_pointer, vSl_slice, vMap_map, vFun_func, vAgg_agg, vTup_tuple, vIfc_nil, vIfc_iface, lC_cons, lN_nil, aP_some, shO_none, shO_some, Option.isNone_none, Option.isNone_some, Bool.not_true, Bool.not_false, show (((0 : Nat) : Int) != 0) = false from rfl]
    rw [wrapS (by omega)]
    have L4 := L3.carry (av' := av) O4 A4 F4 d2 d3
    have hm := dcnt_more (nm := tnm) (n := qs.length) d4 hi (by rw [mst_of ht, h2]; omega) d5
    exact next p4 L4 d6 (by omega) (by omega)
  · have hlt : av i < qs[i].x.length := by omega
    rw [show (((av i : Nat) : Int) == (qs[i].x.length : Int)) = false from by simp; omega]
    simp only [oB_some, bC_true, bC_false, vInt_int, vBool_bool, vStr_string, vPtr_pointer, vSl_slice, vMap_map, vFun_func, vAgg_agg, vTup_tuple, vIfc_nil, vIfc_iface, lC_cons, lN_nil, aP_some, shO_none, shO_some, Option.isNone_none, Option.isNone_some, Bool.not_true, Bool.not_false]
    refine ask_at L3.own L3.ask rfl rfl hi ?_
    refine (L3.own.sl L3.tt).i1 (j := i) (v := .int .i64 (av i : Int)) rfl (by simp [avL]) (avL_at hi) ?_
    simp only [oB_some, bC_true, bC_false, vInt_int, vBool_bool, vStr_string, vPtr_pointer, vSl_slice, vMap_map, vFun_func, vAgg_agg, vTup_tuple, vIfc_nil, vIfc_iface, lC_cons, lN_nil, aP_some, shO_none, shO_some, Option.isNone_none, Option.isNone_some, Bool.not_true, Bool.not_false]
    refine int_at L3.own (L3.ask.each _ (List.getElem_mem hi)) rfl rfl hlt ?_
    obtain ⟨z1, z2⟩ := L.fit.r _ (List.getElem_mem hi) _ (List.getElem_mem hlt)
    obtain ⟨j, ej⟩ : ∃ j : Nat, qs[i].x[av i] = (j : Int) := ⟨_, (Int.toNat_of_nonneg z1).symm⟩
    have hj : j < qs.length := by omega
    rw [ej]
    refine name6_ok (by omega) ?_
    simp only [oB_some, bC_true, bC_false, vInt_int, vBool_bool, vStr_string, vPtr_pointer, vSl_slice, vMap_map, vFun_func, vAgg_agg, vTup_tuple, vIfc_nil, vIfc_iface, lC_cons, lN_nil, aP_some, shO_none, shO_some, Option.isNone_none, Option.isNone_some, Bool.not_true, Bool.not_false]
    refine (L3.own.sl L3.tt).i1 (j := i) (v := .int .i64 (av i : Int)) rfl (by simp [avL]) (avL_at hi) ?_
    simp only [oB_some, bC_true, bC_false, vInt_int, vBool_bool, vStr_string, vPtr_pointer, vSl_slice, vMap_map, vFun_func, vAgg_agg, vTup_tuple, vIfc_nil, vIfc_iface, lC_cons, lN_nil, aP_some, shO_none, shO_some, Option.isNone_none, Option.isNone_some, Bool.not_true, Bool.not_false]
    rw [wrap_small (n := ((av i : Nat) : Int) + 1) (by omega) (by omega)]
    refine w_i1_wr L3.own (Pcs.one L3.tt) 0 rfl (j := i) rfl (by simp [avL]) (by simp [avL]; omega) rfl fun h4 ρ4 O4 W4 => ?_
    have W4 : Pcs ρ3 ρ4 [ca] [.sl ta qs.length 1 (intsV (avL qs.length (bump av i)))] := W4.eq (by rw [← avL_set hi]; rfl)
    have Fb : FI tnm qs.length (bump av i) m := L3.fi.more fun k => Nat.le_add_right _ _
    have hbl : ∀ k, bump av i k ≤ qlen qs k := fun k => by
      have := L3.le k
      unfold bump
      split
      · rename_i e; subst e; rw [qlen_at hi]; omega
      · omega
    have L4 : Lf h4 μ3 ρ4 I m qs (bump av i) ca ta aa pa pv room :=
      ⟨O4, L3.at_.keep (FrN.of W4.fra) (fun c hc => by simp at hc; rw [hc]; exact L3.nc), L3.fit, Fb, hbl, L3.sl, L3.r0, W4.at_ 0 _ _ rfl rfl, L3.nc, L3.ask.keep (W4.fra.mono fun c hc => by simp at hc; rw [hc]; simp), L3.pp.keep (W4.fra.mono fun c hc => by simp at hc; rw [hc]; simp)⟩
    obtain ⟨w1, w2, w3, w4, w5⟩ := fi_wait L3.fi A (tinj hn) (tne hn) hi hj ht h2
    refine a_wait L4.own L4.at_ L4.fi.ok L4.sz fun h5 μ5 ρ5 I5 co oa oc O5 A5 p5 F5 hco hcn W5 => ?_
    rw [w1]
    simp only [oB_some, bC_true, bC_false, vInt_int, vBool_bool, vStr_string, vPtr_pointer, vSl_slice, vMap_map, vFun_func, vAgg_agg, vTup_tuple, vIfc_nil, vIfc_iface, lC_cons, lN_nil, aP_some, shO_none, shO_some, Option.isNone_none, Option.isNone_some, Bool.not_true, Bool.not_false, show (((0 : Nat) : Int) != 0) = false from rfl]
    have L5 := L4.carry (av' := bump av i) O5 A5 F5 w2 w3
    have hxl : (iwait m (tnm i) (tnm j)).1.length ≤ 1000 := by
      rcases w5 with ⟨e, _⟩ | ⟨_, hnd, _, hs, _⟩
      · rw [e]; simp
      · have := nodup_sub hnd (l' := (List.range qs.length).map tnm) fun c hc => by
          obtain ⟨u, hu, _⟩ := mst_some (hs c hc).1 (by omega)
          obtain ⟨q, hq, e⟩ := w2.keys c u hu
          exact List.mem_map.2 ⟨q, List.mem_range.2 hq, e.symm⟩
        simp at this
        omega
    have hb := sumN_bump (a := av) (i := i) (n := qs.length)
    rw [if_pos hi] at hb
    have hm1 := dcnt_mono (nm := tnm) (n := qs.length) w4
    rw [← p5]
    refine flow_57 (by omega) hxl L5 W5 w5 (fun {h μ ρ I' m'} p6 L6 A6 h6 => ?_) _ 0 rfl (Nat.zero_le _)
    have hm2 := dcnt_mono (nm := tnm) (n := qs.length) h6
    have := next (p6.trans p5) L6 A6 (step := step + 1) (by omega) (by omega)
    rw [← p5] at this
    exact this
/-- One turn. -/
theorem flow_34 {ac pc tc all step lim : Nat} (hq : ∀ h, Q (.bool true) h) (hall : all = (qs.map fun q => q.x.length).sum) (L : Lf h μ ρ I m qs av ca ta aa pa pv room) (A : Acy (mget m.tasks))
    (hlim : lim ≤ dcnt tnm qs.length m + sumN av qs.length + 1) (hstp : step ≤ dcnt tnm qs.length m + sumN av qs.length)
    (next : Nx I.p qs ca room ta aa pa pv Q ac pc tc all lim) :
    unitAt P f_brickyardlaw20_SchedFlows 34 [1, 3, 9, 10, 11, 12, 13, 19] [.slice aa qs.length ac, .slice pa pv.length pc, .int .i64 (qs.length : Int), .pointer (some ⟨I.p, 0, none⟩), .int .i64 (room : Int), .slice ta qs.length tc, .int .i64 (all : Int), .int .i64 (step : Int)] h Q := by
  have hn := L.fit.n
  have hal := L.fit.all
  have hd := dcnt_le tnm qs.length m
  have hs : sumN av qs.length ≤ all := by rw [hall, ← sumN_qlen]; exact sumN_le L.le
  refine r_brickyardlaw20_SchedFlows_34 ?_
  refine a_over L.own L.at_ L.sz ?_
  have hov := over_iff L.fi
  by_cases e : ∀ t, t ∈ m.tasks → t.st = 4
  · rw [show (!ilive m.tasks && (manyOf m.tasks 3 == 0)) = true from hov.2 e]
    simp only [oB_some, bC_true, bC_false, vInt_int, vBool_bool, vStr_string, vPtr_pointer, vSl_slice, vMap_map, vFun_func, vAgg_agg, vTup_tuple, vIfc_nil, vIfc_iface, lC_cons, lN_nil, aP_some, shO_none, shO_some, Option.isNone_none, Option.isNone_some, Bool.not_true, Bool.not_false]
    exact flow_74 hq L e _ 0 rfl (Nat.zero_le _)
  · rw [show (!ilive m.tasks && (manyOf m.tasks 3 == 0)) = false from by rw [← Bool.not_eq_true]; exact fun x => e (hov.1 x)]
    simp only [oB_some, bC_true, bC_false, vInt_int, vBool_bool, vStr_string, vPtr_pointer, vSl_slice, vMap_map, vFun_func, vAgg_agg, vTup_tuple, vIfc_nil, vIfc_iface, lC_cons, lN_nil, aP_some, shO_none, shO_some, Option.isNone_none, Option.isNone_some, Bool.not_true, Bool.not_false]
    have hex : ∃ t, t ∈ m.tasks ∧ t.st ≠ 4 := by
      apply Decidable.byContradiction
      intro hx
      exact e fun t ht => Decidable.byContradiction fun hne => hx ⟨t, ht, hne⟩
    rw [wrap_small (n := (qs.length : Int) + (all : Int)) (by omega) (by omega), wrap_small (n := 2 * ((qs.length : Int) + (all : Int))) (by omega) (by omega), wrap_small (n := 2 * ((qs.length : Int) + (all : Int)) + 2) (by omega) (by omega), show decide ((step : Int) > 2 * ((qs.length : Int) + (all : Int)) + 2) = false from decide_eq_false (by omega)]
    simp only [oB_some, bC_true, bC_false, vInt_int, vBool_bool, vStr_string, vPtr_pointer, vSl_slice, vMap_map, vFun_func, vAgg_agg, vTup_tuple, vIfc_nil, vIfc_iface, lC_cons, lN_nil, aP_some, shO_none, shO_some, Option.isNone_none, Option.isNone_some, Bool.not_true, Bool.not_false]
    refine a_stuck L.own L.at_ L.sz ?_
    rw [show (!ilive m.tasks && decide (manyOf m.tasks 3 > 0)) = false from by unfold ilive; rw [decide_eq_true (not_stuck L.fi A hex)]; rfl]
    simp only [oB_some, bC_true, bC_false, vInt_int, vBool_bool, vStr_string, vPtr_pointer, vSl_slice, vMap_map, vFun_func, vAgg_agg, vTup_tuple, vIfc_nil, vIfc_iface, lC_cons, lN_nil, aP_some, shO_none, shO_some, Option.isNone_none, Option.isNone_some, Bool.not_true, Bool.not_false]
    refine a_fill L.own L.at_ L.fi.ok L.sz (by omega) fun h1 μ1 ρ1 I1 co oa oc O1 A1 p1 F1 hco hcn W1 => ?_
    simp only [oB_some, bC_true, bC_false, vInt_int, vBool_bool, vStr_string, vPtr_pointer, vSl_slice, vMap_map, vFun_func, vAgg_agg, vTup_tuple, vIfc_nil, vIfc_iface, lC_cons, lN_nil, aP_some, shO_none, shO_some, Option.isNone_none, Option.isNone_some, Bool.not_true, Bool.not_false]
    have hfl := (fill_len m.slots.length (m := m) (out := []) (i := 0)).2
    obtain ⟨f1, f2⟩ := fi_fill m.slots.length L.fi A [] 0
    have L1 := L.carry (av' := av) O1 A1 F1 f1 hfl
    have hst4 := fun k => fill_st m.slots.length L.fi.ok [] 0 k
    have hm1 := dcnt_mono (nm := tnm) (n := qs.length) (fun k => (hst4 k).1)
    have go : ∀ pick, unitAt P f_brickyardlaw20_SchedFlows 42 [1, 3, 9, 10, 11, 12, 13, 19, 20] [.slice aa qs.length ac, .slice pa pv.length pc, .int .i64 (qs.length : Int), .pointer (some ⟨I.p, 0, none⟩), .int .i64 (room : Int), .slice ta qs.length tc, .int .i64 (all : Int), .int .i64 (step : Int), .int .i64 pick] h1 Q := fun pick => by
      rw [← p1]
      refine flow_42 (lim := lim) (by omega) L1 f2 (fill_ex _ L.fi.ok _ _ hex) (fun j hj => fill_full m.slots.length L.fi.ok (fun j hj => by omega) j (by rw [hfl] at hj; omega)) (by omega) (by omega) (by rw [p1]; exact next) pick
    refine bC_iff (fun e => ?_) (fun e => go 0)
    have hpl : 0 < pv.length := by have := of_decide_eq_true e; omega
    rw [show decide ((pv.length : Int) = 0) = false from decide_eq_false (by omega)]
    simp only [oB_some, bC_true, bC_false, vInt_int, vBool_bool, vStr_string, vPtr_pointer, vSl_slice, vMap_map, vFun_func, vAgg_agg, vTup_tuple, vIfc_nil, vIfc_iface, lC_cons, lN_nil, aP_some, shO_none, shO_some, Option.isNone_none, Option.isNone_some, Bool.not_true, Bool.not_false]
    rw [tmod_nat]
    have hi : step % pv.length < pv.length := Nat.mod_lt _ hpl
    refine int_at O1 L1.pp rfl rfl hi ?_
    exact go _
theorem flow_loop {ac pc tc all : Nat} (hq : ∀ h, Q (.bool true) h) (hall : all = (qs.map fun q => q.x.length).sum) : ∀ r, Nx p qs ca room ta aa pa pv Q ac pc tc all (qs.length + all + 1 - r) := by
  intro r
  induction r with
  | zero =>
    intro h μ ρ I m av step hp L A h1 _
    have hd := dcnt_le tnm qs.length m
    have hs : sumN av qs.length ≤ all := by rw [hall, ← sumN_qlen]; exact sumN_le L.le
    omega
  | succ r ih =>
    intro h μ ρ I m av step hp L A h1 h2
    subst hp
    exact flow_34 (lim := qs.length + all + 1 - r) hq hall L A (by omega) h2 ih
theorem flows_ok {slots : Int} {qs0 : List Iw} {a0 pa wa : Option Addr} {pv wv : List Int} {c0 pc wc : Nat} (O : Own h μ ρ) (X : AskV ρ [] qs0 a0) (XW : Vw ρ [] wa (intsV wv)) (XP : Vw ρ [] pa (intsV pv)) (hq : ∀ h, Q (.bool true) h) :
    EvQ P f_brickyardlaw20_SchedFlows [.int .i64 slots, .slice a0 qs0.length c0, .slice wa wv.length wc, .slice pa pv.length pc] h Q := by
  refine r_brickyardlaw20_SchedFlows ?_
  refine works_ok O fun h1 μ1 ρ1 O1 F1 => ?_
  simp only [oB_some, bC_true, bC_false, vInt_int, vBool_bool, vStr_string, vPtr_pointer, vSl_slice, vMap_map, vFun_func, vAgg_agg, vTup_tuple, vIfc_nil, vIfc_iface, lC_cons, lN_nil, aP_some, shO_none, shO_some, Option.isNone_none, Option.isNone_some, Bool.not_true, Bool.not_false]
  refine bC_iff (fun _ => hq _) (fun e1 => bC_iff (fun _ => hq _) (fun e2 => ?_))
  have hn : qs0.length ≤ 24 := by have := of_decide_eq_false e1; omega
  have hw : wv.length ≤ 40 := by have := of_decide_eq_false e2; omega
  refine a_new O1 fun h2 μ2 ρ2 I2 O2 A2 F2 n2 => ?_
  simp only [oB_some, bC_true, bC_false, vInt_int, vBool_bool, vStr_string, vPtr_pointer, vSl_slice, vMap_map, vFun_func, vAgg_agg, vTup_tuple, vIfc_nil, vIfc_iface, lC_cons, lN_nil, aP_some, shO_none, shO_some, Option.isNone_none, Option.isNone_some, Bool.not_true, Bool.not_false]
  refine w_make O2 A2.1 ti_ty_sl_int ti_ty_int qs0.length rfl (show allOne (rep [Value.int .i64 0] qs0.length) = true from allOne_of fun v hv => by rw [rep_one] at hv; rw [List.eq_of_mem_replicate hv]; rfl) (by omega) (by omega) fun h3 μ3 ρ3 ca ta O3 W3 hca => ?_
  simp only [oB_some, bC_true, bC_false, vInt_int, vBool_bool, vStr_string, vPtr_pointer, vSl_slice, vMap_map, vFun_func, vAgg_agg, vTup_tuple, vIfc_nil, vIfc_iface, lC_cons, lN_nil, aP_some, shO_none, shO_some, Option.isNone_none, Option.isNone_some, Bool.not_true, Bool.not_false]
  rw [slotsOf_eq]
  have hr := slotsOf_range slots
  have hn2 : ca ∉ I2.ns := pcs_notin W3
  have A3 : At ρ3 I2 ⟨[], List.replicate (slotsOf slots) e0, []⟩ := ⟨W3.self.tail', A2.2⟩
  have F23 : Fra (ca :: I2.ns) ρ2 ρ3 := (W3.tail hca).fra.mono fun c hc => List.mem_cons_of_mem _ hc
  have V : ∀ {a l}, Vw ρ [] a l → Vw ρ3 (ca :: I2.ns) a l := fun x =>
    Vw.keep (show Vw ρ2 (ca :: I2.ns) _ _ from (vw_fresh (x.keep F1) F2 n2).imp id fun y => y.add hca) F23
  have X3 : AskV ρ3 (ca :: I2.ns) qs0 a0 := ⟨V X.top, fun q hq => V (X.each q hq), X.caps⟩
  have hN : ∀ d, d ∈ ca :: I2.ns → ∃ r, ρ3 d = some r := fun d hd => by
    obtain ⟨i, hi, e⟩ := List.getElem_of_mem hd
    have hlt := hi
    rw [W3.len] at hlt
    exact ⟨_, W3.at_ i d _ (by rw [List.getElem?_eq_getElem hi, e]) (List.getElem?_eq_getElem hlt)⟩
  have ht3 : ρ3 ca = some (.sl ta qs0.length 1 (intsV (avL qs0.length fun _ => 0))) := by
    rw [avL_zero, ← rep_one]
    exact W3.at_ 0 _ _ rfl rfl
  refine flow_13 X3 hN hn hq (fun {h4 μ4 ρ4 cur a cap} O4 F4 X4 ec h8 => ?_) _ 0 rfl (Nat.zero_le _) O3 Fra.refl X3 (by simp) (by simp) (by simp)
  have hcl : cur.length = qs0.length := by have := congrArg List.length ec; simpa using this
  have hsm : (qs0.map fun q => q.x.length).sum = (cur.map fun q => q.x.length).sum := by
    have := congrArg (fun l => (l.map List.length).sum) ec
    simp only [List.map_map] at this
    rw [show (List.length ∘ Iw.x) = fun q : Iw => q.x.length from rfl, show (List.length ∘ fun q : Iw => q.x.map (nrm qs0.length)) = fun q : Iw => q.x.length from by funext q; simp] at this
    exact this.symm
  have hof : ∀ q, q ∈ cur → ∃ q0, q0 ∈ qs0 ∧ q0.x.map (nrm qs0.length) = q.x := fun q hq => by
    have : q.x ∈ cur.map Iw.x := List.mem_map.2 ⟨q, hq, rfl⟩
    rw [ec] at this
    exact List.mem_map.1 this
  have fit : Fit cur := ⟨by omega, fun q hq => by
    obtain ⟨q0, h1, e⟩ := hof q hq
    rw [← e]; simpa using h8 q0 h1, fun q hq z hz => by
    obtain ⟨q0, h1, e⟩ := hof q hq
    rw [← e] at hz
    obtain ⟨y, _, rfl⟩ := List.mem_map.1 hz
    rw [hcl]
    exact nrm_range (List.length_pos_of_mem h1) y⟩
  rw [← hcl]
  have L : Lf h4 μ4 ρ4 I2 ⟨[], List.replicate (slotsOf slots) e0, []⟩ cur (fun _ => 0) ca ta a pa pv (slotsOf slots) :=
    ⟨O4, A3.keep (FrN.of F4) (by simp), fit, fi_new _, fun _ => Nat.zero_le _, by simp, hr, by rw [hcl]; exact F4 _ _ (by simp) ht3, hn2, X4, (V XP).keep (fra_ns F4)⟩
  exact flow_28 hw (fun {h μ ρ I m} hp L A => flow_loop hq hsm (cur.length + (qs0.map fun q => q.x.length).sum + 1) hp L A (by omega) (Nat.zero_le _)) _ 0 rfl (Nat.zero_le _) rfl L (fun k => ⟨[], k, .stop fun t ht => by simp [mget] at ht⟩) ((V XW).keep (fra_ns F4))
end Go.Proofs.YtgdkekdedgkglaaDoor
end

section
/- The row of SchedFlows: a world for its witness; rows of numbers. -/
open Go.RowKit
namespace Go.Proofs.YtgdkekdedgkglaaDoor
open Go.Abs Go.Abs.Fo Go.ChangeShapes Go.WideShapes
set_option maxRecDepth 100000
theorem own_knob : ownKnob Tryd.prog.godebug = none := by kernel_rfl
noncomputable def lowB : Nat := (World.holding Tryd.prog default ⟨#[], #[], []⟩).heap.size
abbrev textRange : ByteArray := ⟨#[118, 97, 108, 117, 101, 32, 111, 117, 116, 32, 111, 102, 32, 114, 97, 110, 103, 101]⟩
abbrev textSyntax : ByteArray := ⟨#[105, 110, 118, 97, 108, 105, 100, 32, 115, 121, 110, 116, 97, 120]⟩
noncomputable def laidW (os : Os) : World :=
  let w0 := World.holding Tryd.prog os ⟨#[.cells #[.string textRange] 155, .cells #[.string textSyntax] 155], #[], []⟩
  { w0 with heap := ((putTab w0.heap [(4, Rows.laid_math_bits_deBruijn32tab), (5, Rows.laid_math_bits_deBruijn64tab), (2, Rows.laid_internal_strconv_uint64pow10)]).modify 1 fun
      | .cells _ t frozen => .cells #[.iface 153 (.pointer (some ⟨lowB, 0, none⟩))] t frozen
      | o => o).modify 0 fun
      | .cells _ t frozen => .cells #[.iface 153 (.pointer (some ⟨lowB + 1, 0, none⟩))] t frozen
      | o => o }
theorem laid_met {args : Array Value} (os : Os) : laidMet Tryd.prog Rows.schedFlowsRow.laid ((laidW os).forCall (fun _ _ => 0) ⟨#[], args, []⟩).memory :=
  laidMet_of_run' 8 (by kernel_rfl) (by kernel_rfl)
def iwOf (p : Nrow) : Iw := ⟨p.a, p.cap, p.x⟩
theorem ask_of {W : World} {ps : List Nrow} {a : Option Addr} {vs ws : List (Option Addr × List Value)} (G : GoodV W ws) (hs : ∀ x, x ∈ vs → x ∈ ws) (V : Vin vs a (ps.map Nrow.cell)) (L : ∀ p, p ∈ ps → Vin vs p.a (p.x.map (Value.int .i64)) ∧ p.x.length ≤ p.cap) : AskV (argStore ws) [] (ps.map iwOf) a := by
  refine ⟨?_, fun q hq => ?_, fun q hq => ?_⟩
  · have := (V.mono hs).vw G
    rw [List.map_map]
    exact this
  · obtain ⟨p, hp, rfl⟩ := List.mem_map.1 hq
    exact ((L p hp).1.mono hs).vw G
  · obtain ⟨p, hp, rfl⟩ := List.mem_map.1 hq
    exact (L p hp).2
end Go.Proofs.YtgdkekdedgkglaaDoor
end
