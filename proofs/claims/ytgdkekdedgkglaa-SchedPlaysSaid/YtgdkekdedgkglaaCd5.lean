/- A deterministic heap for the model, proved sound, and walks of the program over it: part 11. No condition. -/
import Derived.Test.YtgdkekdedgkglaaAb1
import Derived.Test.YtgdkekdedgkglaaAb2
import Derived.Test.YtgdkekdedgkglaaAb3
import Derived.Test.YtgdkekdedgkglaaAb4
import Derived.Test.YtgdkekdedgkglaaAb5
import Derived.Test.YtgdkekdedgkglaaAb6
import Derived.Test.YtgdkekdedgkglaaCd1
import Derived.Test.YtgdkekdedgkglaaCd2
import Derived.Test.YtgdkekdedgkglaaCd3
import Derived.Test.YtgdkekdedgkglaaCd4
set_option linter.unusedVariables false
set_option linter.unusedSimpArgs false
set_option linter.unusedSectionVars false
section
/- SchedPlays: the row of calls. -/
namespace Go.Proofs.Ytgdkekdedgkglaa
open Go.Abs Go.Abs.Sch
set_option maxRecDepth 100000
attribute [local irreducible] unitAt EvQ
variable {h : AW} {μ : Paint} {ρ : Store} {Q : Value → AW → Prop}

theorem want1_clock (m : M) (k : Str) : (want1 m k).clock = m.clock := by unfold want1; split <;> rfl
theorem wantL_clock : ∀ (ks : List Str) (m : M), (wantL m ks).clock = m.clock
  | [], _ => rfl
  | k :: ks, m => (wantL_clock ks (want1 m k)).trans (want1_clock m k)
theorem fillAt_clock (m : M) (out : List Str) (i : Nat) : (fillAt m out i).1.clock = m.clock := by
  unfold fillAt
  split
  · split
    · split <;> rfl
    · rfl
  · rfl
theorem fill_clock : ∀ (n : Nat) (m : M) (out : List Str) (i : Nat), (fillFrom n m out i).1.clock = m.clock
  | 0, _, _, _ => rfl
  | n + 1, m, out, i => (fill_clock n _ _ _).trans (fillAt_clock m out i)
theorem Sz.mono {i : MI} {B B' : Nat} (S : Sz i B) (h : B ≤ B') : Sz i B' := ⟨S.nt, S.ns, S.st.mono h⟩
section
variable {i : MI} {m : M} {j : Nat}
theorem pu_same (U : Pu i m j) : Pu i m (j + 1) := ⟨U.ok, Sz.mono U.sz (by omega), U.sim, U.sl, by have := U.nt; omega, by have := U.ck; omega⟩
theorem pu_want (U : Pu i m j) (hj : j < 200) {ks : List Str} (hk : ks.length ≤ 2) : (wantI m ks).1 = (iwant i ks).1 ∧ Pu (iwant i ks).2 (wantI m ks).2 (j + 1) := by
  have K := iok_want (ks := ks) U.ok
  have nt := U.nt
  have S := sz_want (ks := ks) U.sz (by omega)
  unfold wantI iwant at *
  by_cases e : memB e0 ks = true
  · rw [if_pos e, if_pos e]; exact ⟨rfl, pu_same U⟩
  · rw [if_neg e] at K S
    rw [if_neg e, if_neg e]
    obtain ⟨σ, Si⟩ := U.sim
    have hl := wants_len (ks := ks) (m := i)
    exact ⟨rfl, K, Sz.mono S (by omega), ⟨σ, sim_wants Si⟩, by show 0 < (ks.foldl iwant1 i).slots.length; rw [hl.2]; exact U.sl, by have := hl.1; show (ks.foldl iwant1 i).tasks.length ≤ _; omega, by have := U.ck; show (wantL m ks).clock ≤ _; rw [wantL_clock]; omega⟩
theorem pu_fill (U : Pu i m j) : (fillFrom m.slots.length m [] 0).2 = (ifillFrom i.slots.length i [] 0).2 ∧ Pu (ifillFrom i.slots.length i [] 0).1 (fillFrom m.slots.length m [] 0).1 (j + 1) := by
  obtain ⟨σ, Si⟩ := U.sim
  rw [Si.slots]
  obtain ⟨h1, h2⟩ := sim_fill i.slots.length Si [] 0
  have hl := fill_len i.slots.length (m := i) (out := []) (i := 0)
  refine ⟨h2, iok_fill _ U.ok, Sz.mono (sz_fill _ U.sz) (by have := U.sz.ns; omega), ⟨σ, h1⟩, by rw [hl.2]; exact U.sl, by have := U.nt; rw [hl.1]; omega, by have := U.ck; rw [fill_clock]; omega⟩
theorem pu_wait (U : Pu i m j) (hj : j < 200) (key on : Str) : (waitR m key on).1 = (iwait i key on).1 ∧ (waitR m key on).2.1 = (iwait i key on).2.1 ∧ Pu (iwait i key on).2.2 (waitR m key on).2.2 (j + 1) := by
  obtain ⟨σ, Si⟩ := U.sim
  obtain ⟨h1, h2, h3⟩ := sim_wait Si U.ok key on
  have nt := U.nt
  obtain ⟨s1, s2, s3⟩ := sz_wait (key := key) (on := on) U.sz (by omega)
  have hc : (waitR m key on).2.2.clock ≤ m.clock + 1 := by
    unfold waitR
    split
    · exact Nat.le_succ _
    · split
      · exact Nat.le_succ _
      · split
        · exact Nat.le_succ _
        · exact Nat.le_refl _
  exact ⟨h1, h2, iok_wait U.ok, Sz.mono s1 (by omega), h3, by rw [s3]; exact U.sl, by omega, by have := U.ck; omega⟩
theorem pu_done (U : Pu i m j) (key : Str) : (doneR m key).1 = (idone i key).1 ∧ Pu (idone i key).2 (doneR m key).2 (j + 1) := by
  obtain ⟨σ, Si⟩ := U.sim
  obtain ⟨h1, h2⟩ := sim_done Si U.ok key
  obtain ⟨s1, s2, s3⟩ := sz_done (key := key) U.ok U.sz
  have hc : (doneR m key).2.clock = m.clock := by unfold doneR; split <;> rfl
  exact ⟨h1, iok_done U.ok, Sz.mono s1 (by omega), ⟨σ, h2⟩, by rw [s3]; exact U.sl, by have := U.nt; omega, by have := U.ck; omega⟩
theorem pu_fillok (U : Pu i m j) (hj : j ≤ 200) : FillOk m := by
  obtain ⟨σ, Si⟩ := U.sim
  have nt := U.nt
  have tl := U.tl
  have ql := U.ql
  have ns := U.sz.ns
  refine ⟨U.nd, fun k hk => ?_, fun t ht => ?_, by simp [big]; omega, by omega⟩
  · rw [Si.queue] at hk
    obtain ⟨t, h1, _⟩ := U.ok.ig.q1 k hk
    rw [Si.tasks]
    intro hx
    rw [tix_toT.1 hx] at h1; cases h1
  · rw [Si.tasks] at ht
    obtain ⟨u, hu, rfl⟩ := List.mem_map.1 ht
    have := U.sz.st u hu
    show u.starts + m.slots.length ≤ _
    rw [Si.slots]
    omega
end
theorem ifill_len : ∀ (n : Nat) (i : MI) (out : List Str) (a : Nat), (ifillFrom n i out a).2.length ≤ out.length + n
  | 0, _, _, _ => Nat.le_refl _
  | n + 1, i, out, a => by
    rw [ifillFrom]
    have h1 := ifill_len n (ifillAt i out a).1 (ifillAt i out a).2 (a + 1)
    have h2 : (ifillAt i out a).2.length ≤ out.length + 1 := by
      unfold ifillAt
      split
      · split
        · split
          · simp
          · simp
        · simp
      · simp
    omega
theorem ichase_le {l : List MT} {key : Str} : ∀ (n : Nat) (a : Str) (out r : List Str), ichase l key n a out = some r → r.length ≤ out.length + n
  | 0, a, out, r, h => by simp [ichase] at h
  | n + 1, a, out, r, h => by
    rw [ichase] at h
    split at h
    · split at h
      · split at h
        · cases h
        · split at h
          · cases h; simp
          · have := ichase_le n _ _ _ h
            simp at this; omega
      · cases h
    · cases h
theorem icircle_le (l : List MT) (key : Str) : (icircle l key).length ≤ l.length + 1 := by
  unfold icircle
  split
  · rename_i x h
    have := ichase_le _ _ _ _ h
    have h2 : (rotL x).length ≤ x.length := by unfold rotL; simp; omega
    simp at this; omega
  · simp
theorem iwait_le {i : MI} {key on : Str} : (iwait i key on).1.length ≤ i.tasks.length + 3 := by
  unfold iwait
  split
  · simp
  · split
    · simp
    · split
      · simp
      · have h1 := icircle_le (mupL (mupL (iwant1 i on).tasks key fun t => { t with st := 3, on := on }) on fun t => { t with ws := t.ws ++ [key] }) key
        have h2 := (want1_len (m := i) (k := on)).1
        simp [mupL] at h1 ⊢
        omega
structure Cl where
  kind : Int
  key : Str
  on : Str
  n : Int
def clCells (c : Cl) : List Value := [.int .i64 c.kind, .string c.key, .string c.on, .int .i64 c.n]
theorem cl_len (c : Cl) : (clCells c).length = 4 := rfl
/-- Behind a call: what both tell. -/
theorem plays_tail {I : IM} {i : MI} {N : RN} {m : M} {j : Nat} {cv p : Nat} {c : Cl} {pa : Option Addr} {l : List Cl} {pc n : Nat} (hj : j ≤ 200) (hn : n < l.length) (hl : l.length ≤ 200) (S : Sc h μ ρ I i N m) (U : Pu i m j) (C : Out ρ I N cv (.var p (clCells c))) (X : Rd2 ρ I N pa (l.flatMap clCells))
    (next : ∀ h' μ' ρ', Sc h' μ' ρ' I i N m → Rd2 ρ' I N pa (l.flatMap clCells) → unitAt P f_brickyardlaw20_SchedPlays 9 [5, 6, 28, 29, 30] [.pointer (some ⟨I.p, 0, none⟩), .pointer (some ⟨N.r, 0, none⟩), .slice pa l.length pc, .int .i64 (l.length : Int), .int .i64 ((n + 1 : Nat) : Int)] h' Q) :
    unitAt P f_brickyardlaw20_SchedPlays 30 [5, 6, 8, 28, 29, 30] [.pointer (some ⟨I.p, 0, none⟩), .pointer (some ⟨N.r, 0, none⟩), .pointer (some ⟨p, 0, none⟩), .slice pa l.length pc, .int .i64 (l.length : Int), .int .i64 (n : Int)] h Q := by
  refine r_brickyardlaw20_SchedPlays_30 ?_
  refine o_rd S.own C.1 (j := 1) rfl ?_
  simp only [oB_some, bC_true, bC_false, vInt_int, vBool_bool, vStr_string, vPtr_pointer, vSl_slice, vMap_map, vFun_func, vAgg_agg, vTup_tuple, lC_cons, lN_nil, aP_some, shO_none, shO_some, Option.isNone_none, Option.isNone_some, Bool.not_true, Bool.not_false]
  refine o_rd S.own C.1 (j := 2) rfl ?_
  simp only [oB_some, bC_true, bC_false, vInt_int, vBool_bool, vStr_string, vPtr_pointer, vSl_slice, vMap_map, vFun_func, vAgg_agg, vTup_tuple, lC_cons, lN_nil, aP_some, shO_none, shO_some, Option.isNone_none, Option.isNone_some, Bool.not_true, Bool.not_false]
  obtain ⟨μ2, ρ2, c2, S2, C2, F2⟩ := sc_block S [c.key, c.on] 2 rfl
  refine tells_ok (ks := [c.key, c.on]) S2 U hj (S2.own.sl C2.1) (by simp) fun h3 μ3 ρ3 S3 F3 => ?_
  simp only [oB_some, bC_true, bC_false, vInt_int, vBool_bool, vStr_string, vPtr_pointer, vSl_slice, vMap_map, vFun_func, vAgg_agg, vTup_tuple, lC_cons, lN_nil, aP_some, shO_none, shO_some, Option.isNone_none, Option.isNone_some, Bool.not_true, Bool.not_false]
  rw [wrapS (by omega)]
  exact next _ _ _ S3 (rd_fresh (rd_fresh X F2) F3)
theorem plays_loop {l : List Cl} (hl : l.length ≤ 200) {pa : Option Addr} {pc : Nat} (hq : ∀ h, Q (.bool true) h) :
    ∀ (d n : Nat) {h : AW} {μ : Paint} {ρ : Store} {I : IM} {i : MI} {N : RN} {m : M}, l.length - n = d → n ≤ l.length → Sc h μ ρ I i N m → Pu i m n → Rd2 ρ I N pa (l.flatMap clCells) →
      unitAt P f_brickyardlaw20_SchedPlays 9 [5, 6, 28, 29, 30] [.pointer (some ⟨I.p, 0, none⟩), .pointer (some ⟨N.r, 0, none⟩), .slice pa l.length pc, .int .i64 (l.length : Int), .int .i64 (n : Int)] h Q := by
  intro d
  induction d with
  | zero =>
    intro n h μ ρ I i N m hd hn S U X
    refine r_brickyardlaw20_SchedPlays_9 ?_
    rw [show decide ((n : Int) < (l.length : Int)) = false from decide_eq_false (by omega)]
    simp only [oB_some, bC_true, bC_false, vInt_int, vBool_bool, vStr_string, vPtr_pointer, vSl_slice, vMap_map, vFun_func, vAgg_agg, vTup_tuple, lC_cons, lN_nil, aP_some, shO_none, shO_some, Option.isNone_none, Option.isNone_some, Bool.not_true, Bool.not_false]
    exact hq _
  | succ d ih =>
    intro n h μ ρ I i N m hd hn S U X
    have hlt : n < l.length := by omega
    refine r_brickyardlaw20_SchedPlays_9 ?_
    rw [ltI hlt]
    simp only [oB_some, bC_true, bC_false, vInt_int, vBool_bool, vStr_string, vPtr_pointer, vSl_slice, vMap_map, vFun_func, vAgg_agg, vTup_tuple, lC_cons, lN_nil, aP_some, shO_none, shO_some, Option.isNone_none, Option.isNone_some, Bool.not_true, Bool.not_false]
    refine (X.sl S.own).ix (sz := 4) rfl (flat_len cl_len _) (by omega) hlt fun b off ea hr => ?_
    generalize hc : l[n] = c
    have hcell : ∀ k, k < 4 → h.rd b (off + n * 4 + k) = (clCells c)[k]? := fun k hk => by
      rw [hr k hk, flat_get cl_len hk, List.getElem?_eq_getElem hlt, hc]; rfl
    have r0 := hcell 0 (by omega)
    have r1 := hcell 1 (by omega)
    have r2 := hcell 2 (by omega)
    have r3 := hcell 3 (by omega)
    rw [Nat.add_zero] at r0
    rw [r0]
    simp only [clCells, List.getElem?_cons_zero, oB_some, bC_true, bC_false, vInt_int, vBool_bool, vStr_string, vPtr_pointer, vSl_slice, vMap_map, vFun_func, vAgg_agg, vTup_tuple, lC_cons, lN_nil, aP_some, shO_none, shO_some, Option.isNone_none, Option.isNone_some, Bool.not_true, Bool.not_false]
    rw [r1]
    simp only [clCells, List.getElem?_cons_zero, List.getElem?_cons_succ, oB_some, bC_true, bC_false, vInt_int, vBool_bool, vStr_string, vPtr_pointer, vSl_slice, vMap_map, vFun_func, vAgg_agg, vTup_tuple, lC_cons, lN_nil, aP_some, shO_none, shO_some, Option.isNone_none, Option.isNone_some, Bool.not_true, Bool.not_false]
    rw [show off + n * 4 + 1 + 1 = off + n * 4 + 2 from rfl, r2]
    simp only [clCells, List.getElem?_cons_zero, List.getElem?_cons_succ, oB_some, bC_true, bC_false, vInt_int, vBool_bool, vStr_string, vPtr_pointer, vSl_slice, vMap_map, vFun_func, vAgg_agg, vTup_tuple, lC_cons, lN_nil, aP_some, shO_none, shO_some, Option.isNone_none, Option.isNone_some, Bool.not_true, Bool.not_false]
    rw [show off + n * 4 + 2 + 1 = off + n * 4 + 3 from rfl, r3]
    simp only [clCells, List.getElem?_cons_zero, List.getElem?_cons_succ, oB_some, bC_true, bC_false, vInt_int, vBool_bool, vStr_string, vPtr_pointer, vSl_slice, vMap_map, vFun_func, vAgg_agg, vTup_tuple, lC_cons, lN_nil, aP_some, shO_none, shO_some, Option.isNone_none, Option.isNone_some, Bool.not_true, Bool.not_false]
    obtain ⟨μ1, ρ1, cv, O1, W1, hcv⟩ := w_new S.own (p0 (ρ := ρ)) [.int .i64 0, .string (ByteArray.mk #[]), .string (ByteArray.mk #[]), .int .i64 0]
    refine w_wrL O1 W1 0 rfl (by simp) rfl fun h2 ρ2 O2 W2 => ?_
    have F2 : Fra [] ρ ρ2 := (W2.tail hcv).fra
    have S2 := S.fresh O2 F2
    have C2 : Out ρ2 I N cv (.var h.next (clCells c)) := ⟨W2.at_ 0 _ _ rfl rfl, S.none hcv⟩
    have X2 := rd_fresh X F2
    have tail : ∀ {h' : AW} {μ' : Paint} {ρ' : Store} {I' : IM} {i' : MI} {N' : RN} {m' : M}, Sc h' μ' ρ' I' i' N' m' → Pu i' m' (n + 1) → Out ρ' I' N' cv (.var h.next (clCells c)) → Rd2 ρ' I' N' pa (l.flatMap clCells) →
        unitAt P f_brickyardlaw20_SchedPlays 30 [5, 6, 8, 28, 29, 30] [.pointer (some ⟨I'.p, 0, none⟩), .pointer (some ⟨N'.r, 0, none⟩), .pointer (some ⟨h.next, 0, none⟩), .slice pa l.length pc, .int .i64 (l.length : Int), .int .i64 (n : Int)] h' Q :=
      fun S' U' C' X' => plays_tail (by omega) hlt hl S' U' C' X' fun h'' μ'' ρ'' S'' X'' => ih (n + 1) (by omega) (by omega) S'' U' X''
    clear ih
    have hnl : n < 200 := by omega
    have h64 : i.slots.length ≤ 64 := U.sz.ns
    have hmt := U.tl
    have hmq := U.ql
    have hms := U.sle
    have hml : m.slots.length = i.slots.length := by rw [hms]
    have hnt := U.nt
    have hck := U.ck
    refine o_rd O2 C2.1 (j := 0) rfl ?_
    simp only [oB_some, bC_true, bC_false, vInt_int, vBool_bool, vStr_string, vPtr_pointer, vSl_slice, vMap_map, vFun_func, vAgg_agg, vTup_tuple, lC_cons, lN_nil, aP_some, shO_none, shO_some, Option.isNone_none, Option.isNone_some, Bool.not_true, Bool.not_false]
    refine bC_iff (fun _ => ?_) (fun _ => bC_iff (fun _ => ?_) (fun _ => bC_iff (fun _ => ?_) (fun _ => bC_iff (fun _ => ?_) (fun _ => ?_))))
    · -- Want
      obtain ⟨e1, U'⟩ := pu_want U hnl (ks := [c.key, c.on]) (by simp)
      refine o_rd O2 C2.1 (j := 1) rfl ?_
      simp only [oB_some, bC_true, bC_false, vInt_int, vBool_bool, vStr_string, vPtr_pointer, vSl_slice, vMap_map, vFun_func, vAgg_agg, vTup_tuple, lC_cons, lN_nil, aP_some, shO_none, shO_some, Option.isNone_none, Option.isNone_some, Bool.not_true, Bool.not_false]
      refine o_rd O2 C2.1 (j := 2) rfl ?_
      simp only [oB_some, bC_true, bC_false, vInt_int, vBool_bool, vStr_string, vPtr_pointer, vSl_slice, vMap_map, vFun_func, vAgg_agg, vTup_tuple, lC_cons, lN_nil, aP_some, shO_none, shO_some, Option.isNone_none, Option.isNone_some, Bool.not_true, Bool.not_false]
      obtain ⟨μ3, ρ3, c3, S3, B3, F3⟩ := sc_block S2 [c.key, c.on] 2 rfl
      have C3 := C2.fresh F3
      refine a_want (ks := [c.key, c.on]) S3.own S3.at_ U.ok U.sz (by simp) (Rd.of_sl S3.own B3.2.1 B3.1) fun h4 μ4 ρ4 I4 O4 A4 p4 F4 => ?_
      have S4 := S3.imp O4 A4 F4
      have C4 := C3.imp F4
      have X4 := rd_imp (rd_fresh X2 F3) F4
      simp only [oB_some, bC_true, bC_false, vInt_int, vBool_bool, vStr_string, vPtr_pointer, vSl_slice, vMap_map, vFun_func, vAgg_agg, vTup_tuple, lC_cons, lN_nil, aP_some, shO_none, shO_some, Option.isNone_none, Option.isNone_some, Bool.not_true, Bool.not_false]
      refine o_rd O4 C4.1 (j := 1) rfl ?_
      simp only [oB_some, bC_true, bC_false, vInt_int, vBool_bool, vStr_string, vPtr_pointer, vSl_slice, vMap_map, vFun_func, vAgg_agg, vTup_tuple, lC_cons, lN_nil, aP_some, shO_none, shO_some, Option.isNone_none, Option.isNone_some, Bool.not_true, Bool.not_false]
      refine o_rd O4 C4.1 (j := 2) rfl ?_
      simp only [oB_some, bC_true, bC_false, vInt_int, vBool_bool, vStr_string, vPtr_pointer, vSl_slice, vMap_map, vFun_func, vAgg_agg, vTup_tuple, lC_cons, lN_nil, aP_some, shO_none, shO_some, Option.isNone_none, Option.isNone_some, Bool.not_true, Bool.not_false]
      obtain ⟨μ5, ρ5, c5, S5, B5, F5⟩ := sc_block S4 [c.key, c.on] 2 rfl
      refine want_ok (ks := [c.key, c.on]) (by simp) S5.own S5.rf (Rd.of_sl S5.own B5.2.2 B5.1) (by simp; omega) (by simp; omega) fun h6 μ6 ρ6 N6 O6 R6 e6 r6 F6 => ?_
      have S6 := S5.ref O6 R6 e6 F6
      have C6 := (C4.fresh F5).ref e6 F6
      have X6 := rd_ref (rd_fresh X4 F5) e6 F6
      simp only [oB_some, bC_true, bC_false, vInt_int, vBool_bool, vStr_string, vPtr_pointer, vSl_slice, vMap_map, vFun_func, vAgg_agg, vTup_tuple, lC_cons, lN_nil, aP_some, shO_none, shO_some, Option.isNone_none, Option.isNone_some, Bool.not_true, Bool.not_false]
      refine o_rd O2 C2.1 (j := 1) rfl ?_
      simp only [oB_some, bC_true, bC_false, vInt_int, vBool_bool, vStr_string, vPtr_pointer, vSl_slice, vMap_map, vFun_func, vAgg_agg, vTup_tuple, lC_cons, lN_nil, aP_some, shO_none, shO_some, Option.isNone_none, Option.isNone_some, Bool.not_true, Bool.not_false]
      refine ⟨by trivial, ?_⟩
      refine o_rd S3.own C3.1 (j := 1) rfl ?_
      simp only [oB_some, bC_true, bC_false, vInt_int, vBool_bool, vStr_string, vPtr_pointer, vSl_slice, vMap_map, vFun_func, vAgg_agg, vTup_tuple, lC_cons, lN_nil, aP_some, shO_none, shO_some, Option.isNone_none, Option.isNone_some, Bool.not_true, Bool.not_false]
      refine ⟨by trivial, ?_⟩
      refine o_rd O2 C2.1 (j := 2) rfl ?_
      simp only [oB_some, bC_true, bC_false, vInt_int, vBool_bool, vStr_string, vPtr_pointer, vSl_slice, vMap_map, vFun_func, vAgg_agg, vTup_tuple, lC_cons, lN_nil, aP_some, shO_none, shO_some, Option.isNone_none, Option.isNone_some, Bool.not_true, Bool.not_false]
      refine ⟨by trivial, ?_⟩
      refine o_rd S3.own C3.1 (j := 2) rfl ?_
      simp only [oB_some, bC_true, bC_false, vInt_int, vBool_bool, vStr_string, vPtr_pointer, vSl_slice, vMap_map, vFun_func, vAgg_agg, vTup_tuple, lC_cons, lN_nil, aP_some, shO_none, shO_some, Option.isNone_none, Option.isNone_some, Bool.not_true, Bool.not_false]
      refine ⟨by trivial, ?_⟩
      rw [e1]
      simp only [bne_self_eq_false, oB_some, bC_true, bC_false, vInt_int, vBool_bool, vStr_string, vPtr_pointer, vSl_slice, vMap_map, vFun_func, vAgg_agg, vTup_tuple, lC_cons, lN_nil, aP_some, shO_none, shO_some, Option.isNone_none, Option.isNone_some, Bool.not_true, Bool.not_false]
      rw [← p4, ← r6]
      exact tail S6 U' C6 X6
    · -- Fill
      obtain ⟨e1, U'⟩ := pu_fill U
      refine a_fill S2.own S2.at_ U.ok U.sz (by omega) fun h3 μ3 ρ3 I3 co oa oc O3 A3 p3 F3 hco hcn W3 => ?_
      have S3 := S2.imp O3 A3 F3
      have C3 := C2.imp F3
      have X3 := rd_imp X2 F3
      simp only [oB_some, bC_true, bC_false, vInt_int, vBool_bool, vStr_string, vPtr_pointer, vSl_slice, vMap_map, vFun_func, vAgg_agg, vTup_tuple, lC_cons, lN_nil, aP_some, shO_none, shO_some, Option.isNone_none, Option.isNone_some, Bool.not_true, Bool.not_false]
      refine fill_ok S3.own S3.rf (by omega) (pu_fillok U (by omega)) fun h4 μ4 ρ4 N4 co4 oa4 oc4 O4 W4 hco4 e4 r4 => ?_
      have W5 := W4.tail hco4
      have F4 : Fra N.ns ρ3 ρ4 := W5.fra
      have S4 := S3.ref O4 (W5.self.names e4.symm) e4 F4
      have C4 := C3.ref e4 F4
      have X4 := rd_ref X3 e4 F4
      simp only [oB_some, bC_true, bC_false, vInt_int, vBool_bool, vStr_string, vPtr_pointer, vSl_slice, vMap_map, vFun_func, vAgg_agg, vTup_tuple, lC_cons, lN_nil, aP_some, shO_none, shO_some, Option.isNone_none, Option.isNone_some, Bool.not_true, Bool.not_false]
      have hx := F4 _ _ (S2.none hco).2 W3
      refine equal_ok (S4.own.sl hx) (S4.own.sl (W4.at_ 0 _ _ rfl rfl)) (by have := ifill_len i.slots.length i [] 0; simp at this; omega) ?_
      rw [decide_eq_true e1.symm]
      simp only [oB_some, bC_true, bC_false, vInt_int, vBool_bool, vStr_string, vPtr_pointer, vSl_slice, vMap_map, vFun_func, vAgg_agg, vTup_tuple, lC_cons, lN_nil, aP_some, shO_none, shO_some, Option.isNone_none, Option.isNone_some, Bool.not_true, Bool.not_false]
      rw [← p3, ← r4]
      exact tail S4 U' C4 X4
    · -- Pick
      have hsl0 := U.sl
      refine o_rd O2 C2.1 (j := 3) rfl ?_
      simp only [oB_some, bC_true, bC_false, vInt_int, vBool_bool, vStr_string, vPtr_pointer, vSl_slice, vMap_map, vFun_func, vAgg_agg, vTup_tuple, lC_cons, lN_nil, aP_some, shO_none, shO_some, Option.isNone_none, Option.isNone_some, Bool.not_true, Bool.not_false]
      refine a_pick S2.own S2.at_ U.ok U.sz hsl0 fun h3 μ3 ρ3 O3 A3 F3 => ?_
      have S3 := S2.imp O3 A3 F3
      have C3 := C2.imp F3
      have X3 := rd_imp X2 F3
      have go : ∀ s b, ipickV i.slots c.n = .tuple ⟨[.string s, .bool b]⟩ → pickV m c.n = .tuple ⟨[.string s, .bool b]⟩ → (vTup (ipickV i.slots c.n) fun l61 => lC l61 fun v62 l63 => vStr v62 fun s64 => lC l63 fun v65 l66 => vBool v65 fun b67 => lN l66 (oB (AW.rd h3 h.next 3) fun v68 => vInt IntKind.i64 v68 fun n69 => EvQ P f_p_brickyardref20_Sched_Pick [.pointer (some ⟨N.r, 0, none⟩), .int .i64 n69] h3 fun v70 h71 => vTup v70 fun l72 => lC l72 fun v73 l74 => vStr v73 fun s75 => lC l74 fun v76 l77 => vBool v76 fun b78 => lN l77 (bC (!bEq s64 s75) (Q (.bool false) h71) (bC (!b67 == b78) (Q (.bool false) h71) (unitAt P f_brickyardlaw20_SchedPlays 30 [5, 6, 8, 28, 29, 30] [.pointer (some ⟨I.p, 0, none⟩), .pointer (some ⟨N.r, 0, none⟩), .pointer (some ⟨h.next, 0, none⟩), .slice pa l.length pc, .int .i64 (l.length : Int), .int .i64 (n : Int)] h71 Q))))) := by
        intro s b e1 e2
        rw [e1]
        simp only [oB_some, bC_true, bC_false, vInt_int, vBool_bool, vStr_string, vPtr_pointer, vSl_slice, vMap_map, vFun_func, vAgg_agg, vTup_tuple, lC_cons, lN_nil, aP_some, shO_none, shO_some, Option.isNone_none, Option.isNone_some, Bool.not_true, Bool.not_false]
        refine o_rd O3 C3.1 (j := 3) rfl ?_
        simp only [oB_some, bC_true, bC_false, vInt_int, vBool_bool, vStr_string, vPtr_pointer, vSl_slice, vMap_map, vFun_func, vAgg_agg, vTup_tuple, lC_cons, lN_nil, aP_some, shO_none, shO_some, Option.isNone_none, Option.isNone_some, Bool.not_true, Bool.not_false]
        refine pick_ok S3.own S3.rf (by omega) (by omega) ?_
        rw [e2]
        simp only [oB_some, bC_true, bC_false, vInt_int, vBool_bool, vStr_string, vPtr_pointer, vSl_slice, vMap_map, vFun_func, vAgg_agg, vTup_tuple, lC_cons, lN_nil, aP_some, shO_none, shO_some, Option.isNone_none, Option.isNone_some, Bool.not_true, Bool.not_false, bEq_self]
        rw [show (!b == b) = false from by cases b <;> rfl]
        simp only [oB_some, bC_true, bC_false, vInt_int, vBool_bool, vStr_string, vPtr_pointer, vSl_slice, vMap_map, vFun_func, vAgg_agg, vTup_tuple, lC_cons, lN_nil, aP_some, shO_none, shO_some, Option.isNone_none, Option.isNone_some, Bool.not_true, Bool.not_false]
        exact tail S3 (pu_same U) C3 X3
      cases hp : pickFrom i.slots (pickAt i.slots.length c.n) i.slots.length 0 with
      | none => exact go e0 false (by unfold ipickV; rw [hp]) (by unfold pickV pick; rw [hms, hp])
      | some s => exact go s true (by unfold ipickV; rw [hp]) (by unfold pickV pick; rw [hms, hp])
    · -- Wait
      obtain ⟨e1, e2, U'⟩ := pu_wait U hnl c.key c.on
      refine o_rd O2 C2.1 (j := 1) rfl ?_
      simp only [oB_some, bC_true, bC_false, vInt_int, vBool_bool, vStr_string, vPtr_pointer, vSl_slice, vMap_map, vFun_func, vAgg_agg, vTup_tuple, lC_cons, lN_nil, aP_some, shO_none, shO_some, Option.isNone_none, Option.isNone_some, Bool.not_true, Bool.not_false]
      refine o_rd O2 C2.1 (j := 2) rfl ?_
      simp only [oB_some, bC_true, bC_false, vInt_int, vBool_bool, vStr_string, vPtr_pointer, vSl_slice, vMap_map, vFun_func, vAgg_agg, vTup_tuple, lC_cons, lN_nil, aP_some, shO_none, shO_some, Option.isNone_none, Option.isNone_some, Bool.not_true, Bool.not_false]
      refine a_wait S2.own S2.at_ U.ok U.sz fun h3 μ3 ρ3 I3 co oa oc O3 A3 p3 F3 hco hcn W3 => ?_
      have S3 := S2.imp O3 A3 F3
      have C3 := C2.imp F3
      have X3 := rd_imp X2 F3
      simp only [oB_some, bC_true, bC_false, vInt_int, vBool_bool, vStr_string, vPtr_pointer, vSl_slice, vMap_map, vFun_func, vAgg_agg, vTup_tuple, lC_cons, lN_nil, aP_some, shO_none, shO_some, Option.isNone_none, Option.isNone_some, Bool.not_true, Bool.not_false]
      refine o_rd O3 C3.1 (j := 1) rfl ?_
      simp only [oB_some, bC_true, bC_false, vInt_int, vBool_bool, vStr_string, vPtr_pointer, vSl_slice, vMap_map, vFun_func, vAgg_agg, vTup_tuple, lC_cons, lN_nil, aP_some, shO_none, shO_some, Option.isNone_none, Option.isNone_some, Bool.not_true, Bool.not_false]
      refine o_rd O3 C3.1 (j := 2) rfl ?_
      simp only [oB_some, bC_true, bC_false, vInt_int, vBool_bool, vStr_string, vPtr_pointer, vSl_slice, vMap_map, vFun_func, vAgg_agg, vTup_tuple, lC_cons, lN_nil, aP_some, shO_none, shO_some, Option.isNone_none, Option.isNone_some, Bool.not_true, Bool.not_false]
      refine wait_ok S3.own S3.rf (by omega) (by omega) (by omega) (by omega) U.nd fun h4 μ4 ρ4 N4 co4 oa4 oc4 O4 W4 hco4 e4 r4 => ?_
      have W5 := W4.tail hco4
      have F4 : Fra N.ns ρ3 ρ4 := W5.fra
      have S4 := S3.ref O4 (W5.self.names e4.symm) e4 F4
      have C4 := C3.ref e4 F4
      have X4 := rd_ref X3 e4 F4
      simp only [oB_some, bC_true, bC_false, vInt_int, vBool_bool, vStr_string, vPtr_pointer, vSl_slice, vMap_map, vFun_func, vAgg_agg, vTup_tuple, lC_cons, lN_nil, aP_some, shO_none, shO_some, Option.isNone_none, Option.isNone_some, Bool.not_true, Bool.not_false]
      have hx := F4 _ _ (S2.none hco).2 W3
      refine equal_ok (S4.own.sl hx) (S4.own.sl (W4.at_ 0 _ _ rfl rfl)) (by have := iwait_le (i := i) (key := c.key) (on := c.on); omega) ?_
      rw [decide_eq_true e1.symm, e1, e2]
      simp only [oB_some, bC_true, bC_false, vInt_int, vBool_bool, vStr_string, vPtr_pointer, vSl_slice, vMap_map, vFun_func, vAgg_agg, vTup_tuple, lC_cons, lN_nil, aP_some, shO_none, shO_some, Option.isNone_none, Option.isNone_some, Bool.not_true, Bool.not_false, bne_self_eq_false]
      rw [show (!((((iwait i c.key c.on).1.length : Nat) : Int) == 0) == ((((iwait i c.key c.on).1.length : Nat) : Int) == 0)) = false from by cases ((((iwait i c.key c.on).1.length : Nat) : Int) == 0) <;> rfl]
      simp only [oB_some, bC_true, bC_false, vInt_int, vBool_bool, vStr_string, vPtr_pointer, vSl_slice, vMap_map, vFun_func, vAgg_agg, vTup_tuple, lC_cons, lN_nil, aP_some, shO_none, shO_some, Option.isNone_none, Option.isNone_some, Bool.not_true, Bool.not_false]
      rw [← p3, ← r4]
      exact tail S4 U' C4 X4
    · -- Done
      obtain ⟨e1, U'⟩ := pu_done U c.key
      refine o_rd O2 C2.1 (j := 1) rfl ?_
      simp only [oB_some, bC_true, bC_false, vInt_int, vBool_bool, vStr_string, vPtr_pointer, vSl_slice, vMap_map, vFun_func, vAgg_agg, vTup_tuple, lC_cons, lN_nil, aP_some, shO_none, shO_some, Option.isNone_none, Option.isNone_some, Bool.not_true, Bool.not_false]
      refine a_done S2.own S2.at_ U.ok U.sz fun h3 μ3 ρ3 I3 O3 A3 p3 F3 => ?_
      have S3 := S2.imp O3 A3 F3
      have C3 := C2.imp F3
      have X3 := rd_imp X2 F3
      simp only [oB_some, bC_true, bC_false, vInt_int, vBool_bool, vStr_string, vPtr_pointer, vSl_slice, vMap_map, vFun_func, vAgg_agg, vTup_tuple, lC_cons, lN_nil, aP_some, shO_none, shO_some, Option.isNone_none, Option.isNone_some, Bool.not_true, Bool.not_false]
      refine o_rd O3 C3.1 (j := 1) rfl ?_
      simp only [oB_some, bC_true, bC_false, vInt_int, vBool_bool, vStr_string, vPtr_pointer, vSl_slice, vMap_map, vFun_func, vAgg_agg, vTup_tuple, lC_cons, lN_nil, aP_some, shO_none, shO_some, Option.isNone_none, Option.isNone_some, Bool.not_true, Bool.not_false]
      refine done_ok S3.own S3.rf (by omega) (by omega) (by omega) U.nd fun h4 μ4 ρ4 N4 O4 R4 e4 r4 F4 => ?_
      have S4 := S3.ref O4 R4 e4 F4
      have C4 := C3.ref e4 F4
      have X4 := rd_ref X3 e4 F4
      simp only [oB_some, bC_true, bC_false, vInt_int, vBool_bool, vStr_string, vPtr_pointer, vSl_slice, vMap_map, vFun_func, vAgg_agg, vTup_tuple, lC_cons, lN_nil, aP_some, shO_none, shO_some, Option.isNone_none, Option.isNone_some, Bool.not_true, Bool.not_false]
      refine o_rd O2 C2.1 (j := 1) rfl ?_
      simp only [oB_some, bC_true, bC_false, vInt_int, vBool_bool, vStr_string, vPtr_pointer, vSl_slice, vMap_map, vFun_func, vAgg_agg, vTup_tuple, lC_cons, lN_nil, aP_some, shO_none, shO_some, Option.isNone_none, Option.isNone_some, Bool.not_true, Bool.not_false]
      refine ⟨by trivial, ?_⟩
      rw [e1]
      simp only [bne_self_eq_false, oB_some, bC_true, bC_false, vInt_int, vBool_bool, vStr_string, vPtr_pointer, vSl_slice, vMap_map, vFun_func, vAgg_agg, vTup_tuple, lC_cons, lN_nil, aP_some, shO_none, shO_some, Option.isNone_none, Option.isNone_some, Bool.not_true, Bool.not_false]
      rw [← p3, ← r4]
      exact tail S4 U' C4 X4

theorem plays_ok {slots : Int} {l : List Cl} {pa : Option Addr} {pc : Nat} (O : Own h μ ρ) (X : Rd ρ [] pa (l.flatMap clCells)) (hq : ∀ h, Q (.bool true) h) : EvQ P f_brickyardlaw20_SchedPlays [.int .i64 slots, .slice pa l.length pc] h Q := by
  refine r_brickyardlaw20_SchedPlays ?_
  refine works_ok O fun h1 μ1 ρ1 O1 F1 => ?_
  simp only [oB_some, bC_true, bC_false, vInt_int, vBool_bool, vStr_string, vPtr_pointer, vSl_slice, vMap_map, vFun_func, vAgg_agg, vTup_tuple, lC_cons, lN_nil, aP_some, shO_none, shO_some, Option.isNone_none, Option.isNone_some, Bool.not_true, Bool.not_false]
  refine bC_iff (fun _ => hq _) (fun e1 => ?_)
  have hl : l.length ≤ 200 := by simp at e1; omega
  refine a_new O1 fun h2 μ2 ρ2 I O2 A2 F2 n2 => ?_
  simp only [oB_some, bC_true, bC_false, vInt_int, vBool_bool, vStr_string, vPtr_pointer, vSl_slice, vMap_map, vFun_func, vAgg_agg, vTup_tuple, lC_cons, lN_nil, aP_some, shO_none, shO_some, Option.isNone_none, Option.isNone_some, Bool.not_true, Bool.not_false]
  refine ref_new_ok O2 fun h3 μ3 ρ3 N O3 R3 F3 n3 => ?_
  simp only [oB_some, bC_true, bC_false, vInt_int, vBool_bool, vStr_string, vPtr_pointer, vSl_slice, vMap_map, vFun_func, vAgg_agg, vTup_tuple, lC_cons, lN_nil, aP_some, shO_none, shO_some, Option.isNone_none, Option.isNone_some, Bool.not_true, Bool.not_false]
  have hr := slotsOf_range slots
  have X2 : Rd ρ3 I.ns pa (l.flatMap clCells) := ((X.keep F1).fresh F2 n2).keep (F3.mono fun c hc => by simp at hc)
  have dj : ∀ c, c ∈ I.ns → c ∉ N.ns := fun c hi hn => A2.1.notin (n3 c hn) hi
  have S : Sc h3 μ3 ρ3 I ⟨[], List.replicate (slotsOf slots) e0, []⟩ N ⟨[], List.replicate (slotsOf slots) e0, [], 0⟩ := ⟨O3, A2.keep (FrN.of F3) fun c hc => by simp at hc, R3, dj⟩
  have X3 : Rd2 ρ3 I N pa (l.flatMap clCells) := by
    obtain ⟨c, hc, r, h4, rest⟩ := (X.keep F1).fresh F2 n2
    refine ⟨c, fun hm => ?_, r, F3 c r (by simp) h4, rest⟩
    rcases List.mem_append.1 hm with x | x
    · exact hc x
    · rw [n3 c x] at h4; cases h4
  have U : Pu ⟨[], List.replicate (slotsOf slots) e0, []⟩ ⟨[], List.replicate (slotsOf slots) e0, [], 0⟩ 0 := ⟨iok_new _, sz_new hr.2, ⟨_, sim_new _⟩, by simp; omega, by simp, Nat.le_refl _⟩
  exact plays_loop hl hq _ 0 rfl (Nat.zero_le _) S U X3
end Go.Proofs.Ytgdkekdedgkglaa
end
