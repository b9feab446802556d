/- A deterministic heap for the model, proved sound, and walks of the program over it: part 5. No condition. -/
import Derived.Test.YtgdkekdedgkglaaAb1
import Derived.Test.YtgdkekdedgkglaaAb2
import Derived.Test.YtgdkekdedgkglaaAb4
import Derived.Test.YtgdkekdedgkglaaAb3
import Derived.ProofKit
import Derived.Conc.Holds
import Derived.Lib.LaidTab
import Derived.Deep.DeepHandedRow
import Derived.Stop.LaidErr
import Derived.Carry
import Derived.ChangeArms
set_option linter.unusedVariables false
set_option linter.unusedSimpArgs false
set_option linter.unusedSectionVars false
section
/- The scheduler as it is made does what the scheduler as it is said does. No Go in it. -/
namespace Go.Abs.Sch
open Go.Abs

def toT (σ : Str → Nat) (t : MT) : Tk := ⟨t.key, t.st, t.on, σ t.key, t.starts⟩
structure Sim (m : M) (i : MI) (σ : Str → Nat) : Prop where
  tasks : m.tasks = i.tasks.map (toT σ)
  slots : m.slots = i.slots
  queue : m.queue = i.queue
  clk : ∀ k, σ k ≤ m.clock
  unk : ∀ k, mget i.tasks k = none → σ k = 0
  ws : ∀ k t, mget i.tasks k = some t → t.ws.Pairwise fun a b => σ a < σ b

theorem tget_toT {σ : Str → Nat} (k : Str) : ∀ l : List MT, tget (l.map (toT σ)) k = (mget l k).map (toT σ)
  | [] => rfl
  | t :: l => by
    have ih := tget_toT (σ := σ) k l
    unfold tget mget at *
    rw [List.map_cons, List.find?_cons, List.find?_cons]
    show (match bEq t.key k with | true => _ | false => _) = _
    cases bEq t.key k with
    | true => rfl
    | false => exact ih
theorem keys_toT {σ : Str → Nat} (l : List MT) : keys (l.map (toT σ)) = mkeys l := by
  unfold keys mkeys; rw [List.map_map]; rfl
theorem stOf_toT {σ : Str → Nat} {l : List MT} {k : Str} : stOf (l.map (toT σ)) k = mst l k := by
  unfold stOf mst
  rw [tget_toT]
  cases mget l k <;> rfl
theorem startsOf_toT {σ : Str → Nat} {l : List MT} {k : Str} : startsOf (l.map (toT σ)) k = mstarts l k := by
  unfold startsOf mstarts
  rw [tget_toT]
  cases mget l k <;> rfl
theorem tix_toT {σ : Str → Nat} {l : List MT} {k : Str} : (tix (l.map (toT σ)) k = none ↔ mget l k = none) := by
  rcases tix_cases (l.map (toT σ)) k with ⟨h1, h2, _⟩ | ⟨j, t, h1, _, h3, _⟩
  · rw [tget_toT] at h2
    simp only [h1, true_iff]
    cases hx : mget l k with
    | none => rfl
    | some t => rw [hx] at h2; cases h2
  · rw [tget_toT] at h3
    simp only [h1, reduceCtorEq, false_iff]
    intro hx; rw [hx] at h3; cases h3

theorem sim_new (n : Nat) : Sim ⟨[], List.replicate n e0, [], 0⟩ ⟨[], List.replicate n e0, []⟩ (fun _ => 0) :=
  ⟨rfl, rfl, rfl, fun _ => Nat.le_refl _, fun _ _ => rfl, fun k t h => by simp [mget] at h⟩
theorem sim_want1 {m : M} {i : MI} {σ : Str → Nat} (S : Sim m i σ) (k : Str) : Sim (want1 m k) (iwant1 i k) σ := by
  unfold want1 iwant1
  have ht := tix_toT (σ := σ) (l := i.tasks) (k := k)
  rw [← S.tasks] at ht
  cases hm : mget i.tasks k with
  | some t =>
    cases hx : tix m.tasks k with
    | some j => exact S
    | none => rw [ht.1 hx] at hm; cases hm
  | none =>
    rw [ht.2 hm]
    have hg := fun k' => mget_snoc (l := i.tasks) (t := newMT k) hm k'
    refine ⟨?_, S.slots, ?_, S.clk, fun k' h => ?_, fun k' t h => ?_⟩
    · simp only [List.map_append, List.map_cons, List.map_nil]
      rw [S.tasks]
      have : toT σ (newMT k) = newT k := by simp [toT, newMT, newT, S.unk k hm]
      rw [this]
    · simp only; rw [S.queue]
    · have h := (hg k').symm.trans h
      split at h
      · cases h
      · exact S.unk k' h
    · have h := (hg k').symm.trans h
      split at h
      · cases h; exact List.Pairwise.nil
      · exact S.ws k' t h
theorem sim_wants {ks : List Str} : ∀ {m : M} {i : MI} {σ : Str → Nat}, Sim m i σ → Sim (wantL m ks) (ks.foldl iwant1 i) σ := by
  induction ks with
  | nil => intro m i σ S; exact S
  | cons k ks ih => intro m i σ S; exact ih (sim_want1 S k)

theorem upL_toT {σ : Str → Nat} {k : Str} {f : Tk → Tk} {g : MT → MT} (h : ∀ t, f (toT σ t) = toT σ (g t)) (l : List MT) : upL (l.map (toT σ)) k f = (mupL l k g).map (toT σ) := by
  unfold upL mupL
  rw [List.map_map, List.map_map]
  refine List.map_congr_left fun t _ => ?_
  simp only [Function.comp]
  show (if t.key = k then f (toT σ t) else toT σ t) = _
  split
  · exact h t
  · rfl
theorem mget_up_ws {l : List MT} {k : Str} {f : MT → MT} (hk : ∀ t, (f t).key = t.key) (hw : ∀ t, (f t).ws = t.ws) {p : List Str → Prop} (h : ∀ k t, mget l k = some t → p t.ws) : ∀ k' t, mget (mupL l k f) k' = some t → p t.ws := by
  intro k' t ht
  rw [mget_up hk] at ht
  rcases gupd_cs ht with ⟨rfl, t0, h0, rfl⟩ | ⟨_, h1⟩
  · rw [hw]; exact h _ _ h0
  · exact h _ _ h1
theorem mget_up_none {l : List MT} {k : Str} {f : MT → MT} (hk : ∀ t, (f t).key = t.key) {k' : Str} (h : mget (mupL l k f) k' = none) : mget l k' = none := by
  rw [mget_up hk] at h
  unfold gupd at h
  split at h
  · cases hx : mget l k' with
    | none => rfl
    | some t => rw [hx] at h; cases h
  · exact h

theorem sim_fillAt {m : M} {i : MI} {σ : Str → Nat} (S : Sim m i σ) (out : List Str) (j : Nat) : Sim (fillAt m out j).1 (ifillAt i out j).1 σ ∧ (fillAt m out j).2 = (ifillAt i out j).2 := by
  unfold fillAt ifillAt
  rw [S.slots, S.queue]
  cases i.slots[j]? with
  | none => exact ⟨S, rfl⟩
  | some s =>
    simp only
    split
    · cases hq : i.queue with
      | nil => exact ⟨S, rfl⟩
      | cons k q =>
        simp only
        refine ⟨⟨?_, ?_, rfl, S.clk, fun k' h => ?_, ?_⟩, by first | rfl | trivial⟩
        · simp only [upT]
          rw [S.tasks]
          exact upL_toT (g := fun t => { t with st := 2, starts := t.starts + 1 }) (fun t => rfl) _
        · simp only [upT]
        · exact S.unk k' (mget_up_none (f := fun t => { t with st := 2, starts := t.starts + 1 }) (fun _ => rfl) h)
        · exact mget_up_ws (f := fun t => { t with st := 2, starts := t.starts + 1 }) (p := fun ws => ws.Pairwise fun a b => σ a < σ b) (fun _ => rfl) (fun _ => rfl) S.ws
    · exact ⟨S, rfl⟩
theorem sim_fill : ∀ (n : Nat) {m : M} {i : MI} {σ : Str → Nat} (_ : Sim m i σ) (out : List Str) (j : Nat), Sim (fillFrom n m out j).1 (ifillFrom n i out j).1 σ ∧ (fillFrom n m out j).2 = (ifillFrom n i out j).2
  | 0, _, _, _, S, _, _ => ⟨S, rfl⟩
  | n + 1, m, i, σ, S, out, j => by
    obtain ⟨h1, h2⟩ := sim_fillAt S out j
    have := sim_fill n h1 (ifillAt i out j).2 (j + 1)
    rw [fillFrom, ifillFrom, h2]
    exact this

/-! A task leaves its slot. -/
theorem leave_eq {slots : List Str} {k : Str} (hk : k ≠ e0) (sn : ∀ (i j : Nat) (k : Str), slots[i]? = some k → slots[j]? = some k → k ≠ e0 → i = j) : leaveL slots k = ileave slots k := by
  unfold leaveL ileave
  cases e : slots.findIdx? (fun t => bEq k t) with
  | none =>
    have h := List.findIdx?_eq_none_iff.1 e
    simp only
    conv => rhs; rw [← List.map_id slots]
    refine List.map_congr_left fun s hs => ?_
    have := h s hs
    rw [if_neg (fun x => by subst x; simp at this)]; rfl
  | some j =>
    obtain ⟨hj, h1, _⟩ := List.findIdx?_eq_some_iff_getElem.1 e
    have hj' : slots[j]? = some k := by rw [List.getElem?_eq_getElem hj, ← bEq_iff.1 h1]
    simp only
    apply List.ext_getElem?
    intro a
    rw [List.getElem?_map, List.getElem?_set]
    by_cases ea : j = a
    · subst ea
      rw [if_pos rfl, if_pos hj, hj']; simp
    · rw [if_neg ea]
      cases hs : slots[a]? with
      | none => rfl
      | some s =>
        have : s ≠ k := fun x => by subst x; exact ea (sn j a s hj' hs hk)
        simp [this]

/-! Circles. -/
theorem chase_loop {l : List Tk} {key : Str} {C : List Str} (hC : ∀ x, x ∈ C → ∃ t, tget l x = some t ∧ t.st = 3 ∧ t.on ≠ key ∧ t.on ∈ C) : ∀ (n : Nat) (at_ : Str) (out : List Str), at_ ∈ C → chase l key n at_ out = none
  | 0, _, _, _ => rfl
  | n + 1, at_, out, h => by
    obtain ⟨t, h1, h2, h3, h4⟩ := hC at_ h
    rw [chase, h1]
    simp only
    rw [if_pos h2, if_neg h3]
    exact chase_loop hC n t.on _ h4
theorem chase_eq {l : List MT} {σ : Str → Nat} {key : Str} : ∀ (n : Nat) (at_ : Str) (out : List Str), out.Nodup → (∀ x, x ∈ out → ∃ t, mget l x = some t ∧ t.st = 3 ∧ t.on ≠ key ∧ (t.on ∈ out ∨ t.on = at_)) →
    chase (l.map (toT σ)) key n at_ out = ichase l key n at_ out ∧ ∀ r, ichase l key n at_ out = some r → r.Nodup
  | 0, at_, out, _, _ => ⟨rfl, fun r h => by simp [ichase] at h⟩
  | n + 1, at_, out, hn, h => by
    rw [chase, ichase, tget_toT]
    cases hm : mget l at_ with
    | none => exact ⟨rfl, fun r h => by simp at h⟩
    | some t =>
      simp only [Option.map_some]
      show (if t.st = 3 then (if t.on = key then _ else _) else _) = _ ∧ _
      by_cases h3 : t.st = 3
      · rw [if_pos h3, if_pos h3]
        by_cases hb : memB at_ out = true
        · rw [if_pos hb]
          have hmem : at_ ∈ out := memB_iff.1 hb
          have hC : ∀ x, x ∈ out → ∃ t, tget (l.map (toT σ)) x = some t ∧ t.st = 3 ∧ t.on ≠ key ∧ t.on ∈ out := by
            intro x hx
            obtain ⟨u, a, b, c, d⟩ := h x hx
            exact ⟨toT σ u, by rw [tget_toT, a]; rfl, b, c, d.elim id fun e => by show u.on ∈ out; rw [e]; exact hmem⟩
          obtain ⟨u, a, b, c, d⟩ := h at_ hmem
          rw [hm] at a; cases a
          refine ⟨?_, fun r h => by cases h⟩
          show (if t.on = key then _ else chase (l.map (toT σ)) key n t.on _) = none
          rw [if_neg c]
          exact chase_loop hC n _ _ (d.elim id fun e => by rw [e]; exact hmem)
        · rw [if_neg hb]
          have hnm : at_ ∉ out := fun x => hb (memB_iff.2 x)
          have hn' : (out ++ [at_]).Nodup := by
            rw [List.nodup_append]
            exact ⟨hn, by simp, fun a ha b hb => by simp at hb; subst hb; rintro rfl; exact hnm ha⟩
          show (if t.on = key then some (out ++ [at_]) else chase (l.map (toT σ)) key n t.on (out ++ [at_])) = _ ∧ _
          by_cases ho : t.on = key
          · rw [if_pos ho, if_pos ho]
            exact ⟨rfl, fun r h => by cases h; exact hn'⟩
          · rw [if_neg ho, if_neg ho]
            refine chase_eq n t.on (out ++ [at_]) hn' fun x hx => ?_
            rcases List.mem_append.1 hx with hx | hx
            · obtain ⟨u, a, b, c, d⟩ := h x hx
              exact ⟨u, a, b, c, .inl (d.elim (fun e => List.mem_append_left _ e) fun e => by rw [e]; simp)⟩
            · simp at hx; subst hx
              exact ⟨t, hm, h3, ho, .inr rfl⟩
      · rw [if_neg h3, if_neg h3]
        exact ⟨rfl, fun r h => by cases h⟩
theorem bl_tri : ∀ x y : List UInt8, (Op.bytesLess x y || x == y) = !Op.bytesLess y x
  | [], [] => rfl
  | [], _ :: _ => rfl
  | _ :: _, [] => rfl
  | a :: x, b :: y => by
    have ih := bl_tri x y
    have hs : ((a :: x) == (b :: y)) = ((a == b) && (x == y)) := rfl
    rw [hs]
    unfold Op.bytesLess
    rcases Nat.lt_trichotomy a.toNat b.toNat with h | h | h
    · have h1 : a < b := h
      have h2 : ¬ b < a := fun x => by have : b.toNat < a.toNat := x; omega
      have h3 : ¬ b = a := fun x => by subst x; omega
      simp [h1, h2, h3]
    · have e : a = b := UInt8.toNat_inj.1 h
      subst e
      have h1 : ¬ a < a := fun x => Nat.lt_irrefl _ x
      simp [h1]
      simpa using ih
    · have h1 : b < a := h
      have h2 : ¬ a < b := fun x => by have : a.toNat < b.toNat := x; omega
      have h3 : ¬ a = b := fun x => by subst x; omega
      simp [h1, h2, h3]
theorem leq_less (c t : Str) : leqS c t = !less t c := bl_tri _ _
theorem least_fold {x : List Str} : ∀ (n k cur : Nat), k + n = x.length → cur < x.length → x.getD (least x n k cur) e0 = (x.drop k).foldl (fun c t => if leqS c t then c else t) (x.getD cur e0)
  | 0, k, cur, h, hc => by
    rw [least, List.drop_eq_nil_of_le (by omega)]; rfl
  | n + 1, k, cur, h, hc => by
    have hk : k < x.length := by omega
    rw [least, List.drop_eq_getElem_cons hk, List.foldl_cons, leq_less]
    have hg : x.getD k e0 = x[k] := by rw [List.getD_eq_getElem?_getD, List.getElem?_eq_getElem hk]; rfl
    by_cases hl : less (x.getD k e0) (x.getD cur e0) = true
    · rw [if_pos hl, ← hg, hl, least_fold n (k + 1) k (by omega) hk]; simp
    · rw [if_neg hl, ← hg, show less (x.getD k e0) (x.getD cur e0) = false from by simpa using hl, least_fold n (k + 1) cur (by omega) hc]; simp
theorem turn_rot {x : List Str} (hn : x.Nodup) : turnL x = rotL x := by
  cases hx : x with
  | nil => rfl
  | cons y r =>
    rw [← hx]
    have h0 : 0 < x.length := by rw [hx]; simp
    have hlt := least_lt (x := x) (x.length - 1) 1 0 (by omega) h0
    have hf := least_fold (x := x) (x.length - 1) 1 0 (by omega) h0
    have hm : minS x = x[least x (x.length - 1) 1 0] := by
      have e1 : x.getD 0 e0 = x.headD e0 := by rw [hx]; rfl
      rw [List.getD_eq_getElem?_getD, List.getElem?_eq_getElem hlt] at hf
      unfold minS
      rw [← e1, ← hf]; rfl
    have hi : idxN (minS x) x = least x (x.length - 1) 1 0 := by
      unfold idxN
      cases e : x.findIdx? (fun t => bEq (minS x) t) with
      | none =>
        have := List.findIdx?_eq_none_iff.1 e _ (minS_mem h0)
        simp at this
      | some j =>
        obtain ⟨hj, h1, _⟩ := List.findIdx?_eq_some_iff_getElem.1 e
        have h2 := bEq_iff.1 h1
        rw [hm] at h2
        exact ((List.getElem_inj (h₀ := hlt) (h₁ := hj) hn).1 h2).symm
    unfold turnL rotL
    rw [hi]
theorem circle_eq {l : List MT} {σ : Str → Nat} (key : Str) : circleR (l.map (toT σ)) key = icircle l key := by
  unfold circleR icircle
  obtain ⟨h1, h2⟩ := chase_eq (l := l) (σ := σ) (key := key) (l.length + 1) key [] List.nodup_nil (fun x hx => by simp at hx)
  rw [List.length_map, h1]
  cases e : ichase l key (l.length + 1) key [] with
  | none => rfl
  | some r => exact turn_rot (h2 r e)

/-! Waiting. -/
theorem sim_wait {m : M} {i : MI} {σ : Str → Nat} (S : Sim m i σ) (K : IOk i) (key on : Str) : (waitR m key on).1 = (iwait i key on).1 ∧ (waitR m key on).2.1 = (iwait i key on).2.1 ∧ ∃ σ', Sim (waitR m key on).2.2 (iwait i key on).2.2 σ' := by
  unfold waitR iwait
  by_cases h0 : on = e0
  · rw [if_pos h0, if_pos h0]; exact ⟨rfl, rfl, σ, S⟩
  rw [if_neg h0, if_neg h0, S.tasks, stOf_toT, stOf_toT]
  by_cases h2 : mst i.tasks key ≠ 2
  · rw [if_pos h2, if_pos h2]; exact ⟨rfl, rfl, σ, S⟩
  rw [if_neg h2, if_neg h2]
  by_cases h4 : mst i.tasks on = 4
  · rw [if_pos h4, if_pos h4]; exact ⟨rfl, rfl, σ, S⟩
  rw [if_neg h4, if_neg h4]
  have S1 := sim_want1 S on
  have K1 := iok_want1 K h0
  have hst : mst i.tasks key = 2 := by omega
  obtain ⟨t0, ht0, hs0⟩ := mst_some hst (by omega)
  have ht1 : mget (iwant1 i on).tasks key = some t0 := by
    unfold iwant1
    cases hx : mget i.tasks on with
    | some t => exact ht0
    | none =>
      simp only
      have := mget_snoc (l := i.tasks) (t := newMT on) hx key
      rw [this, if_neg (fun e => by have e : key = on := e; rw [e] at ht0; rw [hx] at ht0; cases ht0)]
      exact ht0
  have hk0 : key ≠ e0 := (K.ig.key key t0 ht0).2
  let σ' : Str → Nat := fun k => if k = key then m.clock + 1 else σ k
  have hσ : ∀ k, k ≠ key → σ' k = σ k := fun k h => if_neg h
  have hσk : σ' key = m.clock + 1 := if_pos rfl
  have hclk : (want1 m on).clock = m.clock := by unfold want1; split <;> rfl
  have htasks : upL (want1 m on).tasks key (fun t => { t with st := 3, on := on, since := m.clock + 1 }) =
      (mupL (mupL (iwant1 i on).tasks key fun t => { t with st := 3, on := on }) on fun t => { t with ws := t.ws ++ [key] }).map (toT σ') := by
    rw [S1.tasks]
    unfold upL mupL
    rw [List.map_map, List.map_map, List.map_map]
    refine List.map_congr_left fun t _ => ?_
    simp only [Function.comp]
    show (if t.key = key then _ else toT σ t) = _
    by_cases e : t.key = key
    · rw [if_pos e, if_pos e]
      split <;> simp [toT, e, hσk]
    · rw [if_neg e, if_neg e]
      split <;> simp [toT, hσ _ e]
  have hgood : ∀ k t, mget (mupL (mupL (iwant1 i on).tasks key fun t => { t with st := 3, on := on }) on fun t => { t with ws := t.ws ++ [key] }) k = some t → t.ws.Pairwise fun a b => σ' a < σ' b := by
    have old : ∀ k t, mget (iwant1 i on).tasks k = some t → t.ws.Pairwise (fun a b => σ' a < σ' b) ∧ ∀ a, a ∈ t.ws → σ' a ≤ m.clock := by
      intro k t ht
      have hne : ∀ a, a ∈ t.ws → a ≠ key := fun a ha e => by
        obtain ⟨u, hu, h3, _⟩ := K1.ig.w1 k t ht a ha
        rw [e, ht1] at hu; cases hu; omega
      refine ⟨(S1.ws k t ht).imp_of_mem fun {a b} ha hb h => ?_, fun a ha => ?_⟩
      · rw [hσ a (hne a ha), hσ b (hne b hb)]; exact h
      · rw [hσ a (hne a ha), ← hclk]; exact S1.clk a
    have mid : ∀ k t, mget (mupL (iwant1 i on).tasks key fun t => { t with st := 3, on := on }) k = some t → t.ws.Pairwise (fun a b => σ' a < σ' b) ∧ ∀ a, a ∈ t.ws → σ' a ≤ m.clock :=
      mget_up_ws (f := fun t => { t with st := 3, on := on }) (p := fun ws => ws.Pairwise (fun a b => σ' a < σ' b) ∧ ∀ a, a ∈ ws → σ' a ≤ m.clock) (fun _ => rfl) (fun _ => rfl) old
    intro k t ht
    rw [mget_up (f := fun t => { t with ws := t.ws ++ [key] }) (fun _ => rfl)] at ht
    rcases gupd_cs ht with ⟨rfl, u, hu, rfl⟩ | ⟨_, hu⟩
    · obtain ⟨a1, a2⟩ := mid _ _ hu
      rw [List.pairwise_append]
      refine ⟨a1, List.pairwise_singleton _ _, fun a ha b hb => ?_⟩
      simp at hb; subst hb
      rw [hσk]
      exact Nat.lt_succ_of_le (a2 a ha)
    · exact (mid _ _ hu).1
  refine ⟨?_, rfl, σ', htasks, ?_, S1.queue, fun k => ?_, fun k h => ?_, hgood⟩
  · simp only
    rw [htasks]
    exact circle_eq key
  · simp only
    rw [S1.slots]
    exact leave_eq hk0 K1.ig.sn
  · simp only
    by_cases e : k = key
    · rw [e, hσk]; exact Nat.le_refl _
    · rw [hσ k e]
      have := S.clk k
      omega
  · have h' := mget_up_none (f := fun t => { t with ws := t.ws ++ [key] }) (fun _ => rfl) h
    have h' := mget_up_none (f := fun t => { t with st := 3, on := on }) (fun _ => rfl) h'
    have hne : k ≠ key := fun e => by rw [e, ht1] at h'; cases h'
    rw [hσ k hne]
    exact S1.unk k h'

/-! Ending. -/
def Wt (key : Str) (t : Tk) : Prop := t.st = 3 ∧ t.on = key
theorem scan_spec {L : List Tk} {key : Str} : ∀ (n i : Nat) (f : Option Nat), i + n = L.length → (∀ j, f = some j → ∃ t, L[j]? = some t ∧ Wt key t) →
    match scan L key n i f with
    | none => f = none ∧ ∀ (j : Nat) t, i ≤ j → L[j]? = some t → ¬ Wt key t
    | some j => ∃ t, L[j]? = some t ∧ Wt key t ∧ (∀ j0, f = some j0 → ∀ t0, L[j0]? = some t0 → t.since ≤ t0.since) ∧ ∀ (j' : Nat) t', i ≤ j' → L[j']? = some t' → Wt key t' → t.since ≤ t'.since
  | 0, i, f, hi, hf => by
    rw [scan]
    have none' : ∀ (j : Nat) t, i ≤ j → L[j]? = some t → False := fun j t h1 h2 => by
      have := (List.getElem?_eq_some_iff.1 h2).1; omega
    cases f with
    | none => exact ⟨rfl, fun j t h1 h2 => (none' j t h1 h2).elim⟩
    | some j =>
      obtain ⟨t, h1, h2⟩ := hf j rfl
      exact ⟨t, h1, h2, fun j0 e t0 h => by cases e; rw [h1] at h; cases h; exact Nat.le_refl _, fun j' t' a b => (none' j' t' a b).elim⟩
  | n + 1, i, f, hi, hf => by
    have hlt : i < L.length := by omega
    have hL := List.getElem?_eq_getElem hlt
    rw [scan, hL]
    simp only
    generalize L[i] = t at hL
    by_cases hc : t.st = 3 ∧ t.on = key ∧ ahead L f t = true
    · rw [if_pos hc]
      have ih := scan_spec (L := L) (key := key) n (i + 1) (some i) (by omega) fun j e => by cases e; exact ⟨t, hL, hc.1, hc.2.1⟩
      split at ih
      · exact absurd ih.1 (by simp)
      · rename_i j hj
        obtain ⟨u, h1, h2, h3, h4⟩ := ih
        have hut := h3 i rfl t hL
        refine ⟨u, h1, h2, fun j0 e t0 h => ?_, fun j' t' a b c => ?_⟩
        · subst e
          have ha := hc.2.2
          unfold ahead at ha
          simp only at ha
          rw [h] at ha
          simp at ha
          omega
        · by_cases e : j' = i
          · subst e; rw [hL] at b; cases b; exact hut
          · exact h4 j' t' (by omega) b c
    · rw [if_neg hc]
      have ih := scan_spec (L := L) (key := key) n (i + 1) f (by omega) hf
      split at ih
      · rename_i hs
        refine ⟨ih.1, fun j u a b c => ?_⟩
        by_cases e : j = i
        · subst e; rw [hL] at b; cases b
          exact hc ⟨c.1, c.2, by rw [ih.1]; rfl⟩
        · exact ih.2 j u (by omega) b c
      · rename_i j hj
        obtain ⟨u, h1, h2, h3, h4⟩ := ih
        refine ⟨u, h1, h2, h3, fun j' t' a b c => ?_⟩
        by_cases e : j' = i
        · subst e; rw [hL] at b; cases b
          cases f with
          | none => exact absurd ⟨c.1, c.2, rfl⟩ hc
          | some j0 =>
            obtain ⟨t0, g1, _⟩ := hf j0 rfl
            have h5 := h3 j0 rfl t0 g1
            have : ¬ t.since < t0.since := fun hlt => hc ⟨c.1, c.2, by unfold ahead; simp only; rw [g1]; simp [hlt]⟩
            omega
        · exact h4 j' t' (by omega) b c
def set1 (W : List Str) (t : MT) : MT := if t.key ∈ W then { t with st := 1 } else t
theorem mupL_set {l : List MT} {k : Str} {f : MT → MT} (hn : (mkeys l).Nodup) {j : Nat} {t : MT} (ht : l[j]? = some t) (hk : t.key = k) : l.set j (f t) = mupL l k f := by
  apply List.ext_getElem?
  intro i
  rw [List.getElem?_set]
  unfold mupL
  rw [List.getElem?_map]
  obtain ⟨hj, ej⟩ := List.getElem?_eq_some_iff.1 ht
  by_cases e : j = i
  · subst e
    rw [if_pos rfl, if_pos hj, ht]; simp [hk]
  · rw [if_neg e]
    cases hi : l[i]? with
    | none => rfl
    | some t' =>
      have : t'.key ≠ k := fun e2 => by
        obtain ⟨hi', ei⟩ := List.getElem?_eq_some_iff.1 hi
        have h1 : i < (mkeys l).length := by simpa [mkeys] using hi'
        have h2 : j < (mkeys l).length := by simpa [mkeys] using hj
        have := (List.getElem_inj (h₀ := h1) (h₁ := h2) hn).1 (by simp [mkeys, ei, ej, e2, hk])
        exact e this.symm
      simp [this]
theorem release_all {key : Str} {σ : Str → Nat} : ∀ (W : List Str) (l : List MT) (q : List Str) (n : Nat), (mkeys l).Nodup → W.Pairwise (fun a b => σ a < σ b) → (∀ k, k ∈ W ↔ ∃ t, mget l k = some t ∧ t.st = 3 ∧ t.on = key) → W.length < n →
    release key n (l.map (toT σ)) q = ((l.map (set1 W)).map (toT σ), q ++ W)
  | [], l, q, n + 1, hn, hp, hW, hlt => by
    rw [release]
    have hs := scan_spec (L := l.map (toT σ)) (key := key) (l.map (toT σ)).length 0 none (by omega) (fun j e => by cases e)
    split at hs
    · rename_i e
      rw [e]
      simp only [List.append_nil]
      have : l.map (set1 []) = l := by
        conv => rhs; rw [← List.map_id l]
        exact List.map_congr_left fun t _ => by simp [set1]
      rw [this]
    · exfalso
      obtain ⟨u, h1, h2, _⟩ := hs
      obtain ⟨t, ht, rfl⟩ := List.mem_map.1 (List.mem_of_getElem? h1)
      have := (hW t.key).2 ⟨t, mget_of_mem hn ht, h2⟩
      simp at this
  | k :: W, l, q, 0, _, _, _, hlt => by simp at hlt
  | k :: W, l, q, n + 1, hn, hp, hW, hlt => by
    rw [release]
    have hs := scan_spec (L := l.map (toT σ)) (key := key) (l.map (toT σ)).length 0 none (by omega) (fun j e => by cases e)
    obtain ⟨tk, hk1, hk2⟩ := (hW k).1 (by simp)
    have hkm := mget_mem' hk1
    have hkk := mget_key hk1
    rw [List.pairwise_cons] at hp
    split at hs
    · exfalso
      obtain ⟨j, hj⟩ := List.mem_iff_getElem?.1 (List.mem_map_of_mem (f := toT σ) hkm)
      exact hs.2 j _ (Nat.zero_le _) hj hk2
    · rename_i j e
      obtain ⟨u, h1, h2, _, h4⟩ := hs
      rw [List.getElem?_map] at h1
      cases hlj : l[j]? with
      | none => rw [hlj] at h1; cases h1
      | some t =>
        rw [hlj] at h1
        simp only [Option.map_some, Option.some.injEq] at h1
        subst h1
        have htm := List.mem_of_getElem? hlj
        have htk : t.key = k := by
          have hin := (hW t.key).2 ⟨t, mget_of_mem hn htm, h2⟩
          rcases List.mem_cons.1 hin with x | x
          · exact x
          · exfalso
            obtain ⟨jk, hjk⟩ := List.mem_iff_getElem?.1 (List.mem_map_of_mem (f := toT σ) hkm)
            have := h4 jk _ (Nat.zero_le _) hjk hk2
            have h5 := hp.1 _ x
            have : σ t.key ≤ σ tk.key := this
            rw [hkk] at this
            omega
        rw [e]
        simp only
        rw [List.getElem?_map, hlj]
        simp only [Option.map_some]
        have hset : (l.map (toT σ)).set j { toT σ t with st := 1 } = (mupL l k fun t => { t with st := 1 }).map (toT σ) := by
          rw [← mupL_set (f := fun t => { t with st := 1 }) hn hlj htk, List.map_set]; rfl
        rw [hset]
        have hnk : k ∉ W := fun x => Nat.lt_irrefl _ (hp.1 k x)
        have hq : (toT σ t).key = k := htk
        rw [hq, release_all W (mupL l k fun t => { t with st := 1 }) (q ++ [k]) n (mupL_nodup (f := fun t => { t with st := 1 }) (fun _ => rfl) hn) hp.2 ?_ (by simp at hlt; omega)]
        · congr 1
          · congr 1
            unfold mupL
            rw [List.map_map]
            refine List.map_congr_left fun t _ => ?_
            simp only [Function.comp]
            unfold set1
            by_cases e1 : t.key = k
            · subst e1
              simp [hnk]
            · simp [e1]
          · simp
        · intro k'
          rw [mget_up (f := fun t => { t with st := 1 }) (fun _ => rfl)]
          constructor
          · intro h
            have hne : k' ≠ k := fun e => hnk (e ▸ h)
            obtain ⟨t', a, b⟩ := (hW k').1 (List.mem_cons_of_mem _ h)
            exact ⟨t', by rw [gupd_ne hne]; exact a, b⟩
          · rintro ⟨t', a, b⟩
            rcases gupd_cs a with ⟨rfl, t0, h0, rfl⟩ | ⟨hne, a⟩
            · simp at b
            · exact ((List.mem_cons.1 ((hW k').2 ⟨t', a, b⟩)).resolve_left hne)

theorem ext_keys : ∀ {l l' : List MT}, (mkeys l).Nodup → mkeys l = mkeys l' → (∀ k, mget l k = mget l' k) → l = l'
  | [], [], _, _, _ => rfl
  | [], _ :: _, _, h, _ => by simp [mkeys] at h
  | _ :: _, [], _, h, _ => by simp [mkeys] at h
  | t :: l, t' :: l', hn, h, hg => by
    have hn' := hn
    simp only [mkeys, List.map_cons, List.nodup_cons] at hn
    have h0 := h
    simp only [mkeys, List.map_cons, List.cons.injEq] at h
    have he : t = t' := by
      have := hg t.key
      unfold mget at this
      rw [List.find?_cons, List.find?_cons, ← h.1] at this
      simpa using this
    subst he
    have : l = l' := ext_keys hn.2 h.2 fun k => by
      by_cases e : t.key = k
      · have none1 : ∀ l'' : List MT, mkeys l'' = mkeys l → mget l'' k = none := fun l'' e2 => by
          cases hx : mget l'' k with
          | none => rfl
          | some u =>
            exfalso
            have := mget_key hx
            have hm : u.key ∈ mkeys l'' := List.mem_map.2 ⟨u, mget_mem' hx, rfl⟩
            rw [e2, this, ← e] at hm
            exact hn.1 hm
        rw [none1 l rfl, none1 l' h.2.symm]
      · have := hg k
        unfold mget at this
        rw [List.find?_cons, List.find?_cons, bEq_false.2 e] at this
        exact this
    rw [this]

theorem sim_done {m : M} {i : MI} {σ : Str → Nat} (S : Sim m i σ) (K : IOk i) (key : Str) : (doneR m key).1 = (idone i key).1 ∧ Sim (doneR m key).2 (idone i key).2 σ := by
  have I := K.ig
  rcases idone_cases i key K with ⟨h, hst⟩ | ⟨t0, on, slots', hk, hst, l', h, hkeys, hg⟩
  · rw [h]
    unfold doneR
    rw [S.tasks, stOf_toT]
    have : ¬ (mst i.tasks key = 2 ∨ mst i.tasks key = 3) := by
      unfold mst
      cases hx : mget i.tasks key with
      | none => simp
      | some t => have := hst t hx; simp; omega
    rw [if_neg this]
    exact ⟨rfl, S⟩
  · rw [h]
    have hk0 := (I.key key t0 hk).2
    have hst' : mst i.tasks key = 2 ∨ mst i.tasks key = 3 := by
      unfold mst; rw [hk]; simp only
      rcases hst with ⟨a, _⟩ | ⟨a, _⟩ <;> omega
    unfold doneR
    rw [S.tasks, stOf_toT, if_pos hst', S.queue, S.slots]
    have hup : upL (i.tasks.map (toT σ)) key (fun t => { t with st := 4 }) = (mupL i.tasks key fun t => { t with st := 4 }).map (toT σ) := upL_toT (fun _ => rfl) _
    rw [hup]
    have hWp : (t0.ws.filter fun x => !bEq x key).Pairwise fun a b => σ a < σ b := (S.ws key t0 hk).filter _
    have hWm : ∀ k, k ∈ (t0.ws.filter fun x => !bEq x key) ↔ ∃ t, mget (mupL i.tasks key fun t => { t with st := 4 }) k = some t ∧ t.st = 3 ∧ t.on = key := by
      intro k
      rw [List.mem_filter, mget_up (f := fun t => { t with st := 4 }) (fun _ => rfl)]
      constructor
      · rintro ⟨a, b⟩
        have hne : k ≠ key := by simpa [bEq_false] using b
        obtain ⟨u, h1, h2⟩ := I.w1 key t0 hk k a
        exact ⟨u, by rw [gupd_ne hne]; exact h1, h2⟩
      · rintro ⟨t, a, b, c⟩
        rcases gupd_cs a with ⟨rfl, u, h0, rfl⟩ | ⟨hne, a⟩
        · simp at b
        · obtain ⟨v, h1, h2⟩ := I.w2 k t a b
          rw [c, hk] at h1; cases h1
          exact ⟨h2, by rw [bEq_false.2 hne]; rfl⟩
    have hlen : (t0.ws.filter fun x => !bEq x key).length < ((mupL i.tasks key fun t => { t with st := 4 }).map (toT σ)).length + 1 := by
      have h1 := List.length_filter_le (fun x => !bEq x key) t0.ws
      have h2 := K.ws_le (mget_mem' hk)
      simp [mupL]; omega
    dsimp only
    rw [release_all _ _ i.queue _ (mupL_nodup (f := fun t => { t with st := 4 }) (fun _ => rfl) K.nodup) hWp hWm hlen]
    generalize (t0.ws.filter fun x => !bEq x key) = W at *
    refine ⟨rfl, ?_, ?_, rfl, S.clk, fun k hx => ?_, fun k t ht => ?_⟩
    · -- the tasks
      show ((mupL i.tasks key fun t => { t with st := 4 }).map (set1 W)).map (toT σ) = l'.map (toT σ)
      have hmm : ∀ (F : Str → MT → MT), (∀ k t, (F k t).key = t.key) → ∀ l : List MT, (∀ k, mget (l.map fun t => F t.key t) k = gm (mget l) F k) ∧ mkeys (l.map fun t => F t.key t) = mkeys l := by
        intro F hF l
        refine ⟨fun k => ?_, ?_⟩
        · induction l with
          | nil => rfl
          | cons t l ih =>
            unfold gm mget at *
            rw [List.map_cons, List.find?_cons, List.find?_cons, hF]
            by_cases e : t.key = k
            · subst e; simp
            · rw [bEq_false.2 e]; exact ih
        · unfold mkeys
          rw [List.map_map]
          exact List.map_congr_left fun t _ => hF _ _
      obtain ⟨e1, e2⟩ := hmm (doneF key on W) (fun _ _ => rfl) i.tasks
      have hl' : l' = i.tasks.map fun t => doneF key on W t.key t := ext_keys (by rw [hkeys]; exact K.nodup) (by rw [hkeys, e2]) fun k => by rw [hg, e1]
      rw [hl']
      unfold mupL
      rw [List.map_map, List.map_map, List.map_map]
      refine List.map_congr_left fun t htm => ?_
      simp only [Function.comp]
      have hkW : key ∉ W := fun hx => by
        obtain ⟨t, a, b, _⟩ := (hWm key).1 hx
        rw [mget_up (f := fun t => { t with st := 4 }) (fun _ => rfl), gupd_same hk] at a
        cases a; simp at b
      unfold set1 doneF toT
      by_cases e : t.key = key
      · simp [e, hkW]
      · by_cases e3 : t.key ∈ W <;> simp [e, e3]
    · show leaveL i.slots key = slots'
      rcases hst with ⟨h2, _, j, hj, rfl⟩ | ⟨h3, _, rfl⟩
      · rw [leave_eq hk0 I.sn]
        obtain ⟨j', hj', e⟩ := ileave_at I (List.mem_of_getElem? hj) hk0
        rw [e, I.sn j j' key hj hj' hk0]
      · unfold leaveL
        conv => rhs; rw [← List.map_id i.slots]
        refine List.map_congr_left fun s hs => ?_
        rw [if_neg]; rfl
        rintro rfl
        obtain ⟨u, hu, h2⟩ := I.s1 s hs hk0
        rw [hk] at hu; cases hu; omega
    · have hx : mget l' k = none := hx
      rw [hg] at hx
      unfold gm at hx
      cases hy : mget i.tasks k with
      | none => exact S.unk k hy
      | some t => rw [hy] at hx; cases hx
    · have ht : mget l' k = some t := ht
      rw [hg] at ht
      obtain ⟨u, hu, rfl⟩ := gm_some ht
      have := S.ws k u hu
      unfold doneF
      simp only
      split
      · exact List.Pairwise.nil
      · split
        · exact this.filter _
        · exact this

/-! What is told. -/
theorem any_cnt {s : Nat} : ∀ l : List MT, l.any (fun t => t.st == s) = decide (0 < l.countP fun t => t.st == s)
  | [] => by simp
  | t :: l => by
    rw [List.any_cons, any_cnt l, List.countP_cons]
    by_cases e : t.st = s
    · simp [e]
    · simp [e]
theorem any_many {l : List MT} {σ : Str → Nat} {s : Nat} (h0 : s ≠ 0) : (l.map (toT σ)).any (fun t => t.st == s) = decide (0 < manyOf l s) := by
  unfold manyOf
  rw [if_neg h0, List.any_map]
  have : (List.any l ((fun t => t.st == s) ∘ toT σ)) = l.any fun t => t.st == s := rfl
  rw [this, any_cnt]
  simp
end Go.Abs.Sch
end

section
/- Some pieces under one's eyes: what stands where, and what was not touched. -/
namespace Go.Abs
variable {h h' : AW} {μ μ' : Paint} {P : Program} {ρ0 ρ ρ' : Store} {ns : List Nat} {rs : List Res} {c : Nat}

/-- What is not of these names stays. -/
def Fra (ns : List Nat) (ρ ρ' : Store) : Prop := ∀ c r, c ∉ ns → ρ c = some r → ρ' c = some r
theorem Fra.refl : Fra ns ρ ρ := fun _ _ _ h => h
theorem Fra.trans {ρ'' : Store} (a : Fra ns ρ ρ') (b : Fra ns ρ' ρ'') : Fra ns ρ ρ'' := fun c r hn hc => b c r hn (a c r hn hc)
theorem Fra.mono {ms : List Nat} (a : Fra ns ρ ρ') (hs : ∀ c, c ∈ ns → c ∈ ms) : Fra ms ρ ρ' := fun c r hn hc => a c r (fun x => hn (hs c x)) hc
theorem Fra.upd {r : Res} (a : Fra ns ρ ρ') (hc : c ∈ ns) : Fra ns ρ (ρ'.upd c r) := fun d r' hn hd => by
  rw [upd_ne (fun e => hn (by rw [e]; exact hc))]; exact a d r' hn hd
theorem Fra.new {r : Res} (a : Fra ns ρ ρ') (hc : ρ' c = none) : Fra ns ρ (ρ'.upd c r) := fun d r' hn hd => upd_old hc (a d r' hn hd)
/-- What only names of ns1 turned, seen with more names. -/
theorem Fra.call {ns1 : List Nat} {ρ'' : Store} (a : Fra ns ρ ρ') (b : Fra ns1 ρ' ρ'') (hs : ∀ c, c ∈ ns1 → c ∈ ns ∨ ρ c = none) : Fra ns ρ ρ'' := fun c r hn hc =>
  b c r (fun x => by rcases hs c x with y | y
                     · exact hn y
                     · rw [hc] at y; cases y) (a c r hn hc)

structure Pcs (ρ0 ρ : Store) (ns : List Nat) (rs : List Res) : Prop where
  nodup : ns.Nodup
  len : ns.length = rs.length
  at_ : ∀ (i : Nat) (c : Nat) (r : Res), ns[i]? = some c → rs[i]? = some r → ρ c = some r
  fra : Fra ns ρ0 ρ

theorem Pcs.init (hd : ns.Nodup) (hl : ns.length = rs.length) (ha : ∀ (i : Nat) (c : Nat) (r : Res), ns[i]? = some c → rs[i]? = some r → ρ c = some r) : Pcs ρ ρ ns rs := ⟨hd, hl, ha, Fra.refl⟩
theorem Pcs.get (W : Pcs ρ0 ρ ns rs) (i : Nat) {r : Res} (hr : rs[i]? = some r) : ∃ c, ns[i]? = some c ∧ ρ c = some r := by
  have hi : i < ns.length := by rw [W.len]; exact (List.getElem?_eq_some_iff.1 hr).1
  exact ⟨ns[i], List.getElem?_eq_getElem hi, W.at_ i _ _ (List.getElem?_eq_getElem hi) hr⟩
theorem Pcs.set (W : Pcs ρ0 ρ ns rs) (i : Nat) (hc : ns[i]? = some c) (r : Res) : Pcs ρ0 (ρ.upd c r) ns (rs.set i r) := by
  refine ⟨W.nodup, by simp [W.len], fun j d r' hd hr => ?_, W.fra.upd (List.mem_of_getElem? hc)⟩
  rw [List.getElem?_set] at hr
  split at hr
  · rename_i e; subst e
    rw [hc] at hd; cases hd
    split at hr
    · cases hr; exact upd_same
    · cases hr
  · rename_i e
    have hi := (List.getElem?_eq_some_iff.1 hc).1
    have hj := (List.getElem?_eq_some_iff.1 hd).1
    rw [upd_ne, W.at_ j d r' hd hr]
    intro e2; subst e2
    have := (List.getElem_inj (h₀ := hj) (h₁ := hi) W.nodup).1 (by rw [(List.getElem?_eq_some_iff.1 hc).2, (List.getElem?_eq_some_iff.1 hd).2])
    exact e this.symm
/-- A new name that nobody asks for. -/
theorem Pcs.tmp (W : Pcs ρ0 ρ ns rs) (hc : ρ c = none) (r : Res) : Pcs ρ0 (ρ.upd c r) ns rs :=
  ⟨W.nodup, W.len, fun j d r' hd hr => upd_old hc (W.at_ j d r' hd hr), W.fra.new hc⟩
theorem Pcs.notin (W : Pcs ρ0 ρ ns rs) (hc : ρ c = none) : c ∉ ns := fun hm => by
  obtain ⟨i, hi⟩ := List.getElem?_of_mem hm
  have hlt : i < rs.length := by rw [← W.len]; exact (List.getElem?_eq_some_iff.1 hi).1
  have := W.at_ i c _ hi (List.getElem?_eq_getElem hlt)
  rw [hc] at this; cases this
theorem Pcs.not0 (W : Pcs ρ0 ρ ns rs) (hc : ρ c = none) : ρ0 c = none := by
  cases hx : ρ0 c with
  | none => rfl
  | some r => rw [W.fra c r (W.notin hc) hx] at hc; cases hc
/-- A new name under one's eyes too. -/
theorem Pcs.new (W : Pcs ρ0 ρ ns rs) (hc : ρ c = none) (r : Res) : Pcs ρ0 (ρ.upd c r) (c :: ns) (r :: rs) := by
  refine ⟨List.nodup_cons.2 ⟨W.notin hc, W.nodup⟩, by simp [W.len], fun j d r' hd hr => ?_, fun d r' hn hd => ?_⟩
  · cases j with
    | zero => simp at hd hr; subst hd hr; exact upd_same
    | succ j => simp at hd hr; exact upd_old hc (W.at_ j d r' hd hr)
  · exact upd_old hc (W.fra d r' (fun x => hn (List.mem_cons_of_mem _ x)) hd)

theorem Pcs.tail {r : Res} (W : Pcs ρ0 ρ (c :: ns) (r :: rs)) (hc : ρ0 c = none) : Pcs ρ0 ρ ns rs :=
  ⟨(List.nodup_cons.1 W.nodup).2, by have := W.len; simpa using this, fun i d r' hd hr => W.at_ (i + 1) d r' (by simpa using hd) (by simpa using hr), fun d r' hn hd => W.fra d r' (fun x => by
    rcases List.mem_cons.1 x with rfl | y
    · rw [hc] at hd; cases hd
    · exact hn y) hd⟩
/-- A new name, behind the others. -/
theorem Pcs.snoc (W : Pcs ρ0 ρ ns rs) (hc : ρ c = none) (r : Res) : Pcs ρ0 (ρ.upd c r) (ns ++ [c]) (rs ++ [r]) := by
  refine ⟨?_, by simp [W.len], fun j d r' hd hr => ?_, fun d r' hn hd => ?_⟩
  · rw [List.nodup_append]
    refine ⟨W.nodup, by simp, fun a ha b hb => ?_⟩
    simp at hb; subst hb
    rintro rfl; exact W.notin hc ha
  · rcases Nat.lt_or_ge j ns.length with x | x
    · rw [List.getElem?_append_left x] at hd
      rw [List.getElem?_append_left (by rw [← W.len]; exact x)] at hr
      exact upd_old hc (W.at_ j d r' hd hr)
    · rw [List.getElem?_append_right x] at hd
      rw [List.getElem?_append_right (by rw [← W.len]; exact x), ← W.len] at hr
      cases hj : j - ns.length with
      | zero => rw [hj] at hd hr; simp at hd hr; subst hd hr; exact upd_same
      | succ k => rw [hj] at hd; simp at hd
  · exact upd_old hc (W.fra d r' (fun x => hn (List.mem_append_left _ x)) hd)
/-- The first goes to the end. -/
theorem Pcs.rot {r : Res} (W : Pcs ρ0 ρ (c :: ns) (r :: rs)) : Pcs ρ0 ρ (ns ++ [c]) (rs ++ [r]) := by
  have hl : ns.length = rs.length := by have := W.len; simpa using this
  refine ⟨?_, by simp [hl], fun j d r' hd hr => ?_, fun d r' hn hd => W.fra d r' (fun x => hn (by
    rcases List.mem_cons.1 x with y | y
    · subst y; simp
    · exact List.mem_append_left _ y)) hd⟩
  · rw [List.nodup_append]
    have := List.nodup_cons.1 W.nodup
    refine ⟨this.2, by simp, fun a ha b hb => ?_⟩
    simp at hb; subst hb
    rintro rfl; exact this.1 ha
  · rcases Nat.lt_or_ge j ns.length with x | x
    · rw [List.getElem?_append_left x] at hd
      rw [List.getElem?_append_left (by rw [← hl]; exact x)] at hr
      exact W.at_ (j + 1) d r' (by simpa using hd) (by simpa using hr)
    · rw [List.getElem?_append_right x] at hd
      rw [List.getElem?_append_right (by rw [← hl]; exact x), ← hl] at hr
      cases hj : j - ns.length with
      | zero => rw [hj] at hd hr; exact W.at_ 0 d r' (by simpa using hd) (by simpa using hr)
      | succ k => rw [hj] at hd; simp at hd
/-- Whose names: the old ones, and new ones. -/
def FrN (ns : List Nat) (ρ : Store) (ns' : List Nat) (ρ' : Store) : Prop := Fra ns ρ ρ' ∧ (∀ c, c ∈ ns' → c ∈ ns ∨ ρ c = none) ∧ ∀ c, c ∈ ns → c ∈ ns'
theorem FrN.refl : FrN ns ρ ns ρ := ⟨Fra.refl, fun _ h => .inl h, fun _ h => h⟩
theorem FrN.of (F : Fra ns ρ ρ') : FrN ns ρ ns ρ' := ⟨F, fun _ h => .inl h, fun _ h => h⟩
theorem FrN.trans {ns' ns'' : List Nat} {ρ'' : Store} (a : FrN ns ρ ns' ρ') (b : FrN ns' ρ' ns'' ρ'') : FrN ns ρ ns'' ρ'' := by
  refine ⟨fun c r hn hc => b.1 c r (fun x => ?_) (a.1 c r hn hc), fun c hc => ?_, fun c hc => b.2.2 c (a.2.2 c hc)⟩
  · rcases a.2.1 c x with y | y
    · exact hn y
    · rw [hc] at y; cases y
  · rcases b.2.1 c hc with x | x
    · exact a.2.1 c x
    · by_cases hn : c ∈ ns
      · exact .inl hn
      · refine .inr ?_
        cases hx : ρ c with
        | none => rfl
        | some r => rw [a.1 c r hn hx] at x; cases x
/-- What is nobody's behind a call was nobody's. -/
theorem FrN.none {ns' : List Nat} (a : FrN ns ρ ns' ρ') {c : Nat} (hn : c ∉ ns') (hc : ρ' c = none) : ρ c = none := by
  cases hz : ρ c with
  | none => rfl
  | some r => rw [a.1 c r (fun x => hn (a.2.2 c x)) hz] at hc; cases hc
/-- Without the first. -/
theorem Pcs.tail' {r : Res} (W : Pcs ρ ρ (c :: ns) (r :: rs)) : Pcs ρ ρ ns rs :=
  ⟨(List.nodup_cons.1 W.nodup).2, by have := W.len; simpa using this, fun i d r' hd hr => W.at_ (i + 1) d r' (by simpa using hd) (by simpa using hr), Fra.refl⟩
theorem Pcs.self (W : Pcs ρ0 ρ ns rs) : Pcs ρ ρ ns rs := ⟨W.nodup, W.len, W.at_, Fra.refl⟩
theorem Pcs.to {rs' : List Res} (W : Pcs ρ0 ρ ns rs) (e : rs = rs') : Pcs ρ ρ ns rs' := e ▸ W.self
theorem Pcs.eq {rs' : List Res} (W : Pcs ρ0 ρ ns rs) (e : rs = rs') : Pcs ρ0 ρ ns rs' := e ▸ W
theorem Pcs.names {ns' : List Nat} (W : Pcs ρ0 ρ ns rs) (e : ns = ns') : Pcs ρ0 ρ ns' rs := e ▸ W
/-- Seen from an earlier store. -/
theorem Pcs.back {ρ1 : Store} (W : Pcs ρ0 ρ ns rs) (F : Fra ns ρ1 ρ0) : Pcs ρ1 ρ ns rs := ⟨W.nodup, W.len, W.at_, F.trans W.fra⟩
/-- Others' turns. -/
theorem Pcs.keep {ms : List Nat} (W : Pcs ρ0 ρ ns rs) (F : Fra ms ρ ρ') (hd : ∀ c, c ∈ ms → c ∉ ns) : Pcs ρ' ρ' ns rs :=
  ⟨W.nodup, W.len, fun i c r hc hr => F c r (fun x => hd c x (List.mem_of_getElem? hc)) (W.at_ i c r hc hr), Fra.refl⟩
/-- Others' pieces. -/
theorem Pcs.keepN {ms ms' : List Nat} (W : Pcs ρ ρ ns rs) (F : FrN ms ρ ms' ρ') (hd : ∀ c, c ∈ ms → c ∉ ns) : Pcs ρ' ρ' ns rs ∧ ∀ c, c ∈ ms' → c ∉ ns := by
  refine ⟨W.keep F.1 hd, fun c hc hn => ?_⟩
  rcases F.2.1 c hc with x | x
  · exact hd c x hn
  · exact W.notin x hn
/-- What a call made anew. -/
theorem Pcs.adopt {r : Res} (W : Pcs ρ0 ρ ns rs) (V : Pcs ρ ρ' [c] [r]) (hc : ρ c = none) : Pcs ρ0 ρ' (c :: ns) (r :: rs) := by
  have hn := W.notin hc
  have h0 := W.not0 hc
  refine ⟨List.nodup_cons.2 ⟨hn, W.nodup⟩, by simp [W.len], fun i d s hd hs => ?_, fun d s hd hs => ?_⟩
  · cases i with
    | zero => exact V.at_ 0 d s (by simpa using hd) (by simpa using hs)
    | succ i =>
      simp at hd hs
      refine V.fra d s (fun hm => hn ?_) (W.at_ i d s hd hs)
      simp at hm; subst hm; exact List.mem_of_getElem? hd
  · simp only [List.mem_cons, not_or] at hd
    exact V.fra d s (fun hm => by simp at hm; exact hd.1 hm) (W.fra d s hd.2 hs)
/-- What a call turned. -/
theorem Pcs.put {r : Res} {i : Nat} (W : Pcs ρ0 ρ ns rs) (hc : ns[i]? = some c) (V : Pcs ρ ρ' [c] [r]) : Pcs ρ0 ρ' ns (rs.set i r) := by
  refine ⟨W.nodup, by simp [W.len], fun j d s hd hs => ?_, fun d s hd hs => V.fra d s (fun hm => hd (by simp at hm; subst hm; exact List.mem_of_getElem? hc)) (W.fra d s hd hs)⟩
  rw [List.getElem?_set] at hs
  have hi := List.getElem?_eq_some_iff.1 hc
  have hj := List.getElem?_eq_some_iff.1 hd
  split at hs
  · rename_i e; subst e
    rw [hc] at hd; cases hd
    split at hs
    · cases hs; exact V.at_ 0 _ _ rfl rfl
    · cases hs
  · rename_i e
    refine V.fra d s (fun hm => ?_) (W.at_ j d s hd hs)
    simp at hm; subst hm
    exact e ((List.getElem_inj (h₀ := hi.1) (h₁ := hj.1) W.nodup).1 (by rw [hi.2, hj.2]))
/-- Without the second. -/
theorem Pcs.tail2 {d : Nat} {r s : Res} (W : Pcs ρ0 ρ (c :: d :: ns) (r :: s :: rs)) (hd : ρ0 d = none) : Pcs ρ0 ρ (c :: ns) (r :: rs) := by
  refine ⟨?_, by have := W.len; simp at this ⊢; omega, fun i e t he ht => ?_, fun e t he ht => W.fra e t (fun hm => ?_) ht⟩
  · have := W.nodup
    simp only [List.nodup_cons, List.mem_cons, not_or] at this ⊢
    exact ⟨this.1.2, this.2.2⟩
  · cases i with
    | zero => exact W.at_ 0 e t (by simpa using he) (by simpa using ht)
    | succ i => exact W.at_ (i + 2) e t (by simpa using he) (by simpa using ht)
  · simp only [List.mem_cons, not_or] at hm he
    rcases hm with x | x | x
    · exact he.1 x
    · subst x; rw [hd] at ht; cases ht
    · exact he.2 x
/-- A part of a slice. -/
def SubOf (a0 : Option Addr) (l0 : List Value) (a : Option Addr) (l : List Value) : Prop := ∃ k n, shO a0 k = some a ∧ l = (l0.drop k).take n
theorem SubOf.self {a : Option Addr} {l : List Value} (h : ∀ b, a = some b → b.spot = none) : SubOf a l a l := by
  refine ⟨0, l.length, ?_, by simp⟩
  cases a with
  | none => rfl
  | some b =>
    obtain ⟨i, off, s⟩ := b
    have := h _ rfl
    simp only at this
    subst this; rfl
theorem Sl.sub {a0 a : Option Addr} {l0 l : List Value} (X : Sl h a0 l0) (S : SubOf a0 l0 a l) : Sl h a l := by
  obtain ⟨k, n, e, rfl⟩ := S
  rcases X with ⟨rfl, rfl⟩ | ⟨i, off, rfl, hr⟩
  · simp only [shO, Option.some.injEq] at e; subst e
    exact .inl ⟨rfl, by simp⟩
  · simp only [shO, Option.some.injEq] at e; subst e
    refine .inr ⟨i, off + k, rfl, fun j hj => ?_⟩
    simp only [List.length_take, List.length_drop] at hj
    rw [List.getElem?_take_of_lt (by omega), List.getElem?_drop, Nat.add_assoc]
    exact hr _ (by omega)
/-- A slice that may be read, whatever becomes of the names ns. -/
def Rd (ρ : Store) (ns : List Nat) (a : Option Addr) (l : List Value) : Prop :=
  ∃ c, c ∉ ns ∧ ∃ r, ρ c = some r ∧ ∃ a0 l0, SubOf a0 l0 a l ∧ ((∃ cap sz, r = .sl a0 cap sz l0) ∨ (∃ vs, r = .ro vs ∧ (a0, l0) ∈ vs))
theorem Own.spot (O : Own h μ ρ) {a : Option Addr} {cap sz : Nat} {l : List Value} (hc : ρ c = some (.sl a cap sz l)) : ∀ b, a = some b → b.spot = none := by
  have M : OM h μ c a cap sz l := O.holds _ _ hc
  rintro b rfl
  rcases M.mem with ⟨e, _⟩ | ⟨i, off, e, _⟩
  · cases e
  · cases e; rfl
theorem Rd.of_sl (O : Own h μ ρ) {a : Option Addr} {cap sz : Nat} {l : List Value} (hn : c ∉ ns) (hc : ρ c = some (.sl a cap sz l)) : Rd ρ ns a l :=
  ⟨c, hn, _, hc, a, l, SubOf.self (O.spot hc), .inl ⟨cap, sz, rfl⟩⟩
theorem Rd.of_ro {a0 a : Option Addr} {l0 l : List Value} {vs : List (Option Addr × List Value)} (hn : c ∉ ns) (hc : ρ c = some (.ro vs)) (hm : (a0, l0) ∈ vs) (S : SubOf a0 l0 a l) : Rd ρ ns a l :=
  ⟨c, hn, _, hc, a0, l0, S, .inr ⟨vs, rfl, hm⟩⟩
theorem Rd.of_sub {a0 a : Option Addr} {l0 l : List Value} {cap sz : Nat} (hn : c ∉ ns) (hc : ρ c = some (.sl a0 cap sz l0)) (S : SubOf a0 l0 a l) : Rd ρ ns a l :=
  ⟨c, hn, _, hc, a0, l0, S, .inl ⟨cap, sz, rfl⟩⟩
theorem Rd.sl {a : Option Addr} {l : List Value} (R : Rd ρ ns a l) (O : Own h μ ρ) : Sl h a l := by
  obtain ⟨c, _, r, hc, a0, l0, S, ⟨cap, sz, rfl⟩ | ⟨vs, rfl, hm⟩⟩ := R
  · exact (O.sl hc).sub S
  · exact (O.ro hc hm).sub S
theorem Rd.keep {a : Option Addr} {l : List Value} (R : Rd ρ ns a l) (F : Fra ns ρ ρ') : Rd ρ' ns a l := by
  obtain ⟨c, hn, r, hc, rest⟩ := R
  exact ⟨c, hn, r, F c _ hn hc, rest⟩
theorem Rd.keepN {ns' : List Nat} {a : Option Addr} {l : List Value} (R : Rd ρ ns a l) (F : FrN ns ρ ns' ρ') : Rd ρ' ns' a l := by
  obtain ⟨c, hn, r, hc, rest⟩ := R
  refine ⟨c, fun x => ?_, r, F.1 c _ hn hc, rest⟩
  rcases F.2.1 c x with y | y
  · exact hn y
  · rw [y] at hc; cases hc
theorem Rd.add {a : Option Addr} {l : List Value} (R : Rd ρ ns a l) (hc : ρ c = none) : Rd ρ (c :: ns) a l := by
  obtain ⟨d, hn, r, hd, rest⟩ := R
  refine ⟨d, fun hm => ?_, r, hd, rest⟩
  rcases List.mem_cons.1 hm with x | x
  · subst x; rw [hc] at hd; cases hd
  · exact hn x
theorem Rd.fresh {a : Option Addr} {l : List Value} (R : Rd ρ [] a l) (F : Fra [] ρ ρ') (hf : ∀ c, c ∈ ns → ρ c = none) : Rd ρ' ns a l := by
  obtain ⟨d, hn, r, hd, rest⟩ := R
  exact ⟨d, fun hm => (by rw [hf d hm] at hd; cases hd), r, F d r hn hd, rest⟩
theorem Rd.mono {ms : List Nat} {a : Option Addr} {l : List Value} (R : Rd ρ ns a l) (h : ∀ c, c ∈ ms → c ∈ ns) : Rd ρ ms a l := by
  obtain ⟨c, hn, x⟩ := R
  exact ⟨c, fun y => hn (h c y), x⟩
/-! Steps. -/
theorem w_rd (O : Own h μ ρ) (W : Pcs ρ0 ρ ns rs) (i : Nat) {p j : Nat} {l : List Value} {v : Value} {f : Value → Prop} (hr : rs[i]? = some (.var p l)) (hv : l[j]? = some v) (H : f v) : oB (h.rd p j) f := by
  obtain ⟨c, _, hc⟩ := W.get i hr
  exact o_rd O hc hv H
theorem w_wr (O : Own h μ ρ) (W : Pcs ρ0 ρ ns rs) (i : Nat) {p j : Nat} {l : List Value} {v : Value} {f : AW → Prop} (hr : rs[i]? = some (.var p l)) (hj : j < l.length) (h1 : oneCell v = true)
    (H : ∀ h' ρ', Own h' μ ρ' → Pcs ρ0 ρ' ns (rs.set i (.var p (l.set j v))) → f h') : oB (h.wr p j v) f := by
  obtain ⟨c, hn, hc⟩ := W.get i hr
  exact o_wr O hc hj h1 fun h' O' => H h' _ O' (W.set i hn _)
theorem w_wrL (O : Own h μ ρ) (W : Pcs ρ0 ρ ns rs) (i : Nat) {p j : Nat} {l vs : List Value} {f : AW → Prop} (hr : rs[i]? = some (.var p l)) (hj : j + vs.length ≤ l.length) (h1 : allOne vs = true)
    (H : ∀ h' ρ', Own h' μ ρ' → Pcs ρ0 ρ' ns (rs.set i (.var p (setAll l j vs))) → f h') : oB (h.wrL p j vs) f := by
  obtain ⟨c, hn, hc⟩ := W.get i hr
  exact o_wrL vs O hc hj h1 fun h' O' => H h' _ O' (W.set i hn _)
/-- A new block. -/
theorem w_new (O : Own h μ ρ) (W : Pcs ρ0 ρ ns rs) (l : List Value) : ∃ μ' ρ' c, Own (h.addVar l) μ' ρ' ∧ Pcs ρ0 ρ' (c :: ns) (.var h.next l :: rs) ∧ ρ0 c = none := by
  obtain ⟨c, hc⟩ := O.fresh
  exact ⟨_, _, c, o_addVar O c, W.new hc _, W.not0 hc⟩
/-- A new block that is a slice. -/
theorem w_block (O : Own h μ ρ) (W : Pcs ρ0 ρ ns rs) (l : List Value) {n sz : Nat} (hl : l.length = n * sz) (ha : allOne l = true) : ∃ μ' ρ' c, Own (h.addVar l) μ' ρ' ∧ Pcs ρ0 ρ' (c :: ns) (.sl (some ⟨h.next, 0, none⟩) n sz l :: rs) ∧ ρ0 c = none := by
  obtain ⟨c, hc⟩ := O.fresh
  exact ⟨_, _, c, o_block O c hl ha, W.new hc _, W.not0 hc⟩
/-- A slice of nothing. -/
theorem w_nil (O : Own h μ ρ) (W : Pcs ρ0 ρ ns rs) (sz : Nat) : ∃ ρ' c, Own h μ ρ' ∧ Pcs ρ0 ρ' (c :: ns) (.sl none 0 sz [] :: rs) ∧ ρ0 c = none := by
  obtain ⟨c, hc⟩ := O.fresh
  exact ⟨_, c, O.step (r := .sl none 0 sz []) Chg.refl (OM.nil (sz := sz)), W.new hc _, W.not0 hc⟩
theorem w_cap (O : Own h μ ρ) (W : Pcs ρ0 ρ ns rs) (i : Nat) {a : Option Addr} {cap sz : Nat} {l : List Value} (hr : rs[i]? = some (.sl a cap sz l)) : l.length ≤ cap * sz := by
  obtain ⟨c, _, hc⟩ := W.get i hr
  have M : OM h μ c a cap sz l := O.holds _ _ hc
  exact M.le
theorem w_sl (O : Own h μ ρ) (W : Pcs ρ0 ρ ns rs) (i : Nat) {a : Option Addr} {cap sz : Nat} {l : List Value} (hr : rs[i]? = some (.sl a cap sz l)) : Sl h a l := by
  obtain ⟨c, _, hc⟩ := W.get i hr
  exact O.sl hc
theorem w_i1_wr (O : Own h μ ρ) (W : Pcs ρ0 ρ ns rs) (i : Nat) {a : Option Addr} {cap : Nat} {l : List Value} (hr : rs[i]? = some (.sl a cap 1 l)) {z : Int} {j n : Nat} {v : Value} (hz : z = j) (hn : n = l.length) (hj : j < l.length) (h1 : oneCell v = true) {f : AW → Prop}
    (H : ∀ h' ρ', Own h' μ ρ' → Pcs ρ0 ρ' ns (rs.set i (.sl a cap 1 (l.set j v))) → f h') : aP a fun i off => oB (natIdx z n) fun j => oB (h.wr i (off + j * 1) v) f := by
  obtain ⟨c, hn', hc⟩ := W.get i hr
  exact o_i1_wr O hc hz hn hj h1 fun h' O' => H h' _ O' (W.set i hn' _)
/-- A cell of an element, written. -/
theorem w_ik_wr (O : Own h μ ρ) (W : Pcs ρ0 ρ ns rs) (i : Nat) {a : Option Addr} {cap sz : Nat} {l : List Value} (hr : rs[i]? = some (.sl a cap sz l)) {z : Int} {j k n : Nat} {v : Value} (hz : z = j) (hn : l.length = n * sz) (hj : j < n) (hk : k < sz) (h1 : oneCell v = true) {f : AW → Prop}
    (H : ∀ h' ρ', Own h' μ ρ' → Pcs ρ0 ρ' ns (rs.set i (.sl a cap sz (l.set (j * sz + k) v))) → f h') : aP a fun i off => oB (natIdx z n) fun j => oB (h.wr i (off + j * sz + k) v) f := by
  obtain ⟨c, hn', hc⟩ := W.get i hr
  refine (O.sl hc).ix (sz := sz) hz hn (by omega) hj fun i' off e _ => ?_
  subst e
  have : (j + 1) * sz ≤ n * sz := Nat.mul_le_mul_right _ hj
  rw [Nat.add_mul, Nat.one_mul] at this
  rw [Nat.add_assoc]
  exact o_sl_wr O hc (by omega) h1 fun h' O' => H h' _ O' (W.set i hn' _)
theorem w_app (O : Own h μ ρ) (W : Pcs ρ0 ρ ns rs) (i : Nat) {ty e : TypeId} {u : TypeDesc} {g ag : Bool} {sz bt s1 b1 : Nat} {z1 : Option Value} {z : Value} (h1 : tiOf P ty = some ⟨.slice e, ag, s1, b1, z1⟩) (h2 : tiOf P e = some ⟨u, g, sz, bt, some z⟩) (hs : 0 < sz)
    {a : Option Addr} {cap : Nat} {l : List Value} (hr : rs[i]? = some (.sl a cap sz l)) {n m k : Nat} (hl : l.length = n * sz) {b : Option Addr} {new : List Value} (X : Sl h b new) (hn : new.length = m * sz) (ha : allOne new = true)
    (r1 : (n + m) * bt ≤ 70368744177664) (r2 : n + m ≤ 4611686018427387904) {f : Value → AW → Prop}
    (H : ∀ a' cap' h' μ' ρ', Own h' μ' ρ' → Pcs ρ0 ρ' ns (rs.set i (.sl a' cap' sz (l ++ new))) → f (.slice a' (n + m) cap') h') : oP (appendB P h ⟨[ty, ty]⟩ [.slice a n cap, .slice b m k]) f := by
  obtain ⟨c, hn', hc⟩ := W.get i hr
  exact o_app (te := ⟨u, g, sz, bt, some z⟩) O h1 h2 rfl hs hc hl X hn ha r1 r2 fun a' cap' h' μ' O' => H a' cap' h' μ' _ O' (W.set i hn' _)
/-- append of n zeros. -/
theorem w_appN (O : Own h μ ρ) (W : Pcs ρ0 ρ ns rs) (i : Nat) {ty e ti : TypeId} {u : TypeDesc} {g ag ag2 : Bool} {sz bt s1 b1 s2 b2 : Nat} {z1 z2 : Option Value} {z : Value} (h1 : tiOf P ty = some ⟨.slice e, ag, s1, b1, z1⟩) (h2 : tiOf P e = some ⟨u, g, sz, bt, some z⟩) (h3 : tiOf P ti = some ⟨.int .i64, ag2, s2, b2, z2⟩) (hs : 0 < sz)
    {m : Nat} (hz : z.cells.toList.length = sz) (hza : allOne (rep z.cells.toList m) = true)
    {a : Option Addr} {cap : Nat} {l : List Value} (hr : rs[i]? = some (.sl a cap sz l)) {n : Nat} (hl : l.length = n * sz)
    (r1 : (n + m) * bt ≤ 70368744177664) (r2 : n + m ≤ 4611686018427387904) {f : Value → AW → Prop}
    (H : ∀ a' cap' h' μ' ρ', Own h' μ' ρ' → Pcs ρ0 ρ' ns (rs.set i (.sl a' cap' sz (l ++ rep z.cells.toList m))) → f (.slice a' (n + m) cap') h') : oP (appendB P h ⟨[ty, ti]⟩ [.slice a n cap, .int .i64 (m : Int)]) f := by
  obtain ⟨c, hn', hc⟩ := W.get i hr
  have M : OM h μ c a cap sz l := O.holds _ _ hc
  have hcap : n ≤ cap := by
    have := M.le; rw [hl] at this
    exact Nat.le_of_mul_le_mul_right this hs
  obtain ⟨a', cap', h', e', M', _, C⟩ := appendV_ok (P := P) (te := ⟨u, g, sz, bt, some z⟩) (new := rep z.cells.toList m) (n := m) h2 rfl M hl (by rw [rep_length, hz]) hza r1 r2 hcap
  have hmb : m * bt ≤ 281474976710656 := by
    have : m * bt ≤ (n + m) * bt := Nat.mul_le_mul_right _ (by omega)
    omega
  have : appendB P h ⟨[ty, ti]⟩ [.slice a n cap, .int .i64 (m : Int)] = some (.slice a' (n + m) cap', h') := by
    unfold appendB
    simp only
    rw [h1]; try simp only
    rw [h3]; try simp only
    rw [h2]; try simp only [isInt]
    rw [Nat.ble_eq_true_of_le hmb, Nat.ble_eq_true_of_le (show m ≤ 9223372036854775807 by omega)]
    exact e'
  rw [this]
  exact H a' cap' h' _ _ (O.step (r := .sl a' cap' sz (l ++ rep z.cells.toList m)) C M') (W.set i hn' _)
/-- The first elements. -/
theorem w_take (O : Own h μ ρ) (W : Pcs ρ0 ρ ns rs) (i : Nat) {a : Option Addr} {cap sz : Nat} {l : List Value} (hr : rs[i]? = some (.sl a cap sz l)) (k : Nat) : ∃ ρ', Own h μ ρ' ∧ Pcs ρ0 ρ' ns (rs.set i (.sl a cap sz (l.take k))) := by
  obtain ⟨c, hn', hc⟩ := W.get i hr
  have M : OM h μ c a cap sz l := O.holds _ _ hc
  exact ⟨_, O.step (r := .sl a cap sz (l.take k)) Chg.refl (M.take k), W.set i hn' _⟩
/-- From an element on, all that is left. -/
theorem w_drop (O : Own h μ ρ) (W : Pcs ρ0 ρ ns rs) (i : Nat) {a : Option Addr} {cap sz : Nat} {l : List Value} (hr : rs[i]? = some (.sl a cap sz l)) {k : Nat} (hk : k ≤ cap) {f : Option Addr → Prop}
    (H : ∀ a' ρ', Own h μ ρ' → Pcs ρ0 ρ' ns (rs.set i (.sl a' (cap - k) sz (l.drop (k * sz)))) → f a') : oB (shO a (k * sz)) f := by
  obtain ⟨c, hn', hc⟩ := W.get i hr
  have M : OM h μ c a cap sz l := O.holds _ _ hc
  rcases M.mem with ⟨e, _⟩ | ⟨b, off, e, _⟩
  · subst e
    exact H none _ (O.step (r := .sl none (cap - k) sz (l.drop (k * sz))) Chg.refl M.drop_none) (W.set i hn' _)
  · subst e
    exact H _ _ (O.step (r := .sl (some ⟨b, off + k * sz, none⟩) (cap - k) sz (l.drop (k * sz))) Chg.refl (M.drop hk)) (W.set i hn' _)
/-- A new row of zeros. -/
theorem w_make (O : Own h μ ρ) (W : Pcs ρ0 ρ ns rs) {t e : TypeId} {u : TypeDesc} {g ag : Bool} {sz bt s1 b1 : Nat} {z1 : Option Value} {z : Value} (h1 : tiOf P t = some ⟨.slice e, ag, s1, b1, z1⟩) (h2 : tiOf P e = some ⟨u, g, sz, bt, some z⟩) (n : Nat)
    (hz : z.cells.toList.length = sz) (hza : allOne (rep z.cells.toList n) = true) (hb : n * bt ≤ 140737488355328) (hn : n ≤ 9223372036854775807) {f : Value → AW → Prop}
    (H : ∀ h' μ' ρ' c a, Own h' μ' ρ' → Pcs ρ0 ρ' (c :: ns) (.sl a n sz (rep z.cells.toList n) :: rs) → ρ0 c = none → f (.slice a n n) h') : oP (makeSliceV P h t (.int .i64 (n : Int)) (.int .i64 (n : Int))) f := by
  obtain ⟨c, hc⟩ := O.fresh
  have : makeSliceV P h t (.int .i64 (n : Int)) (.int .i64 (n : Int)) = some (.slice (some ⟨h.next, 0, none⟩) n n, h.addVar (rep z.cells.toList n)) := by
    unfold makeSliceV
    rw [h1, show ((n : Nat) : Int) = Int.ofNat n from rfl]; simp only
    rw [h2]; simp only
    rw [Nat.ble_eq_true_of_le (Nat.le_refl n), Nat.ble_eq_true_of_le hb, Nat.ble_eq_true_of_le hn]
    simp only [Bool.and_self]
    rw [show Nat.beq z.cells.size sz = true from by rw [← hz, ← Array.length_toList, Nat.beq_refl]]
    simp only
    unfold AW.newVar
    rw [hza]
    rfl
  rw [this]
  exact H _ _ _ c _ (o_block O c (by rw [rep_length, hz]) hza) (W.new hc _) (W.not0 hc)
theorem setAll_len : ∀ (vs l : List Value) (j : Nat), (setAll l j vs).length = l.length
  | [], l, j => rfl
  | v :: vs, l, j => by rw [setAll, setAll_len vs]; simp
theorem setAll_lt : ∀ (vs l : List Value) (j k : Nat), k < j → (setAll l j vs)[k]? = l[k]?
  | [], l, j, k, _ => rfl
  | v :: vs, l, j, k, hk => by rw [setAll, setAll_lt vs _ _ _ (by omega), List.getElem?_set_ne (by omega)]
theorem setAll_take (vs l : List Value) (j : Nat) : (setAll l j vs).take j = l.take j := by
  apply List.ext_getElem?
  intro k
  rw [List.getElem?_take, List.getElem?_take]
  split
  · rename_i hk; exact setAll_lt vs l j k hk
  · rfl
theorem o_sl_wrL {b off cap sz : Nat} : ∀ (vs : List Value) {h : AW} {ρ : Store} {rs : List Res} (i : Nat) {l : List Value} (j : Nat), Own h μ ρ → Pcs ρ0 ρ ns rs → rs[i]? = some (.sl (some ⟨b, off, none⟩) cap sz l) → j + vs.length ≤ l.length → allOne vs = true →
    ∃ h' ρ', h.wrL b (off + j) vs = some h' ∧ Own h' μ ρ' ∧ Pcs ρ0 ρ' ns (rs.set i (.sl (some ⟨b, off, none⟩) cap sz (setAll l j vs)))
  | [], h, ρ, rs, i, l, j, O, W, hr, _, _ => by
    refine ⟨h, ρ, rfl, O, W.eq ?_⟩
    obtain ⟨hi, e⟩ := List.getElem?_eq_some_iff.1 hr
    rw [setAll, ← e]; simp
  | v :: vs, h, ρ, rs, i, l, j, O, W, hr, hj, ha => by
    simp only [allOne] at ha
    split at ha
    · rename_i h1
      simp only [List.length_cons] at hj
      obtain ⟨c, hn, hc⟩ := W.get i hr
      have M : OM h μ c _ cap sz l := O.holds _ _ hc
      obtain ⟨h2, e, M', C, n⟩ := M.wr (j := j) (Nat.lt_of_lt_of_le (by omega) M.le) (by omega) h1
      rw [if_pos (by omega)] at M'
      have O2 := O.step (r := .sl (some ⟨b, off, none⟩) cap sz (l.set j v)) C M'
      have hi := (List.getElem?_eq_some_iff.1 hr).1
      obtain ⟨h3, ρ3, e3, O3, W3⟩ := o_sl_wrL (b := b) (off := off) (cap := cap) (sz := sz) vs i (l := l.set j v) (j + 1) O2 (W.set i hn _) (by simp [hi]) (by rw [List.length_set]; omega) ha
      refine ⟨h3, ρ3, ?_, O3, W3.eq (by rw [List.set_set]; rfl)⟩
      simp only [AW.wrL, e]
      rw [← e3, Nat.add_assoc]
    · cases ha
/-- clear, from an element on. -/
theorem w_clear (O : Own h μ ρ) (W : Pcs ρ0 ρ ns rs) (i : Nat) {ty e : TypeId} {u : TypeDesc} {g ag : Bool} {sz bt s1 b1 : Nat} {z1 : Option Value} {z : Value} (h1 : tiOf P ty = some ⟨.slice e, ag, s1, b1, z1⟩) (h2 : tiOf P e = some ⟨u, g, sz, bt, some z⟩)
    {b off cap k n kk : Nat} {l : List Value} (hr : rs[i]? = some (.sl (some ⟨b, off, none⟩) cap sz l)) (hz : z.cells.toList.length = sz) (hl : k * sz + n * sz ≤ l.length) (hza : allOne (rep z.cells.toList n) = true) {f : Value → AW → Prop}
    (H : ∀ h' ρ', Own h' μ ρ' → Pcs ρ0 ρ' ns (rs.set i (.sl (some ⟨b, off, none⟩) cap sz (setAll l (k * sz) (rep z.cells.toList n)))) → f (.tuple #[]) h') : oP (clearB P h ⟨[ty]⟩ [.slice (some ⟨b, off + k * sz, none⟩) n kk]) f := by
  obtain ⟨h', ρ', e, O', W'⟩ := o_sl_wrL (rep z.cells.toList n) i (k * sz) O W hr (by rw [rep_length, hz]; exact hl) hza
  unfold clearB
  simp only
  rw [h1]; simp only
  rw [h2]; simp only
  rw [e]
  exact H h' ρ' O' W'
theorem rep_one (v : Value) : ∀ n, rep [v] n = List.replicate n v
  | 0 => rfl
  | n + 1 => by rw [rep, rep_one v n, List.replicate_succ]; rfl
theorem w_mapL (O : Own h μ ρ) (W : Pcs ρ0 ρ ns rs) (i : Nat) {p : Nat} {es : List (Value × Value)} {f : List (Value × Value) → Prop} (hr : rs[i]? = some (.map p es)) (H : f es) : oB (h.mapL (some p)) f := by
  obtain ⟨c, _, hc⟩ := W.get i hr
  exact o_mapL O hc H
theorem w_mapUpd (O : Own h μ ρ) (W : Pcs ρ0 ρ ns rs) (i : Nat) {p : Nat} {es es' : List (Value × Value)} {t kt et : TypeId} {tk : TI} {ag : Bool} {s1 b1 : Nat} {z1 : Option Value} {k v : Value} (hr : rs[i]? = some (.map p es)) (h1 : tiOf P t = some ⟨.map kt et, ag, s1, b1, z1⟩) (h2 : tiOf P kt = some tk)
    (hk : keyKind tk.und = true) (hu : Abs.upd tk.und k v es = some es') {f : AW → Prop} (H : ∀ h' ρ', Own h' μ ρ' → Pcs ρ0 ρ' ns (rs.set i (.map p es')) → f h') : oB (mapUpdV P h t (.map (some p)) k v) f := by
  obtain ⟨c, hn, hc⟩ := W.get i hr
  exact o_mapUpd O hc h1 h2 hk hu fun h' O' => H h' _ O' (W.set i hn _)
/-- The same under other marks. -/
theorem Res.Holds.repaint {c d : Nat} {r : Res} (hm : ∀ i, i < h.next → μ i = c → μ' i = d) (H : r.Holds h μ c) : r.Holds h μ' d := by
  cases r with
  | var i l =>
    obtain ⟨a, b, V⟩ := H
    exact ⟨a, hm i a b, V⟩
  | sl a cap sz l =>
    have H : OM h μ c a cap sz l := H
    refine (⟨H.le, H.one, ?_⟩ : OM h μ' d a cap sz l)
    rcases H.mem with x | ⟨i, off, e, hi, hc, r, k⟩
    · exact .inl x
    · refine .inr ⟨i, off, e, hi, hm i hi hc, r, ?_⟩
      rcases k with x | ⟨f, g, lo, hi', t, ext, frz, h1, h2, h3, h4, h5⟩
      · exact .inl x
      · exact .inr ⟨f, g, lo, hi', t, ext, frz, h1, h2, h3, hm f h3 h4, h5⟩
  | map i es =>
    obtain ⟨a, b, V⟩ := H
    exact ⟨a, hm i a b, V⟩
  | ro vs =>
    intro a l hv
    rcases H a l hv with x | ⟨i, off, e, h1, h2, h3, r⟩
    · exact .inl x
    · exact .inr ⟨i, off, e, h1, hm i h1 h2, fun f g lo hi z t hr => ⟨(h3 f g lo hi z t hr).1, hm f (h3 f g lo hi z t hr).1 (h3 f g lo hi z t hr).2⟩, r⟩
/-- A new piece in an old one's place. -/
theorem w_swap (O : Own h μ ρ) {r : Res} (W : Pcs ρ0 ρ (c :: ns) (r :: rs)) (h0 : ρ0 c = none) (i : Nat) (hi : i < rs.length) : ∃ μ' ρ', Own h μ' ρ' ∧ Pcs ρ0 ρ' ns (rs.set i r) := by
  have hin : i < ns.length := by have := W.len; simp at this; omega
  have hd : ns[i]? = some ns[i] := List.getElem?_eq_getElem hin
  generalize ns[i] = d at hd
  have hcn : c ∉ ns := (List.nodup_cons.1 W.nodup).1
  have hdc : d ≠ c := fun e => hcn (by rw [← e]; exact List.mem_of_getElem? hd)
  have hc : ρ c = some r := W.at_ 0 c r rfl rfl
  let ρ1 : Store := fun x => if x = d then some r else if x = c then none else ρ x
  let μ1 : Paint := fun x => if μ x = c then d else if μ x = d then c else μ x
  have O1 : Own h μ1 ρ1 := by
    refine ⟨?_, fun e r' he => ?_⟩
    · obtain ⟨N, hN⟩ := O.fin
      refine ⟨Nat.max N (d + 1), fun e he => ?_⟩
      have h1 : N ≤ e := Nat.le_trans (Nat.le_max_left _ _) he
      have h2 : d + 1 ≤ e := Nat.le_trans (Nat.le_max_right _ _) he
      show (if e = d then some r else if e = c then none else ρ e) = none
      rw [if_neg (by omega)]
      split
      · rfl
      · exact hN e h1
    · have he2 : (if e = d then some r else if e = c then none else ρ e) = some r' := he
      clear he
      by_cases ed : e = d
      · rw [if_pos ed] at he2
        cases he2
        rw [ed]
        exact (O.holds c r hc).repaint fun j _ hj => by simp [μ1, hj]
      · rw [if_neg ed] at he2
        by_cases ec : e = c
        · rw [if_pos ec] at he2; cases he2
        · rw [if_neg ec] at he2
          exact (O.holds e r' he2).repaint fun j _ hj => by simp [μ1, hj, ed, ec]
  refine ⟨μ1, ρ1, O1, (List.nodup_cons.1 W.nodup).2, by have := W.len; simp at this ⊢; omega, fun j e r' hj hr => ?_, fun e r' hn he => ?_⟩
  · rw [List.getElem?_set] at hr
    have hje := (List.getElem?_eq_some_iff.1 hj)
    have hie := (List.getElem?_eq_some_iff.1 hd)
    show (if e = d then some r else if e = c then none else ρ e) = some r'
    by_cases x : i = j
    · subst x
      rw [if_pos rfl, if_pos hi] at hr; cases hr
      rw [hd] at hj; cases hj
      rw [if_pos rfl]
    · rw [if_neg x] at hr
      have : e ≠ d := fun y => x (by
        have := (List.getElem_inj (h₀ := hje.1) (h₁ := hie.1) (List.nodup_cons.1 W.nodup).2).1 (by rw [hje.2, hie.2, y])
        exact this.symm)
      rw [if_neg this, if_neg (fun y => hcn (by rw [← y]; exact List.mem_of_getElem? hj))]
      exact W.at_ (j + 1) e r' (by simpa using hj) (by simpa using hr)
  · show (if e = d then some r else if e = c then none else ρ e) = some r'
    rw [if_neg (fun y => hn (by rw [y]; exact List.mem_of_getElem? hd)), if_neg (fun y => by rw [y, h0] at he; cases he)]
    exact W.fra e r' (fun y => by
      rcases List.mem_cons.1 y with z | z
      · rw [z, h0] at he; cases he
      · exact hn z) he
theorem updS_new {k : ByteArray} {v : Value} : ∀ {l : List (ByteArray × Value)}, lookS k l = none → updS k v l = l ++ [(k, v)]
  | [], _ => rfl
  | (k', v') :: l, h => by
    rw [lookS] at h
    by_cases e : k' = k
    · rw [if_pos e] at h; cases h
    · rw [if_neg e] at h
      rw [updS, if_neg e, updS_new h]; rfl
/-- From an element on. -/
theorem Sl.from {a : Option Addr} {l : List Value} (X : Sl h a l) (k : Nat) {f : Option Addr → Prop} (H : ∀ a', Sl h a' (l.drop k) → f a') : oB (shO a k) f := by
  rcases X with ⟨rfl, rfl⟩ | ⟨i, off, rfl, hr⟩
  · exact H none (.inl ⟨rfl, by simp⟩)
  · refine H _ (.inr ⟨i, off + k, rfl, fun j hj => ?_⟩)
    rw [List.length_drop] at hj
    rw [List.getElem?_drop, show off + k + j = off + (k + j) from by omega]
    exact hr _ (by omega)
theorem Sl.take {a : Option Addr} {l : List Value} (X : Sl h a l) (k : Nat) : Sl h a (l.take k) := by
  rcases X with ⟨rfl, rfl⟩ | ⟨i, off, rfl, hr⟩
  · exact .inl ⟨rfl, by simp⟩
  · refine .inr ⟨i, off, rfl, fun j hj => ?_⟩
    rw [List.length_take] at hj
    rw [hr j (by omega), List.getElem?_take_of_lt (by omega)]
end Go.Abs
end

section
/- A region whose order is open, joined. -/
open Go.RowKit
namespace Go.Abs
variable {B0 : Zn} {w0 : World} {φ ψ : Map} {h h' h0 : AW} {w : World} {P : Program}

structure Inv (P : Program) (B0 : Zn) (w0 : World) (ops : Array Oper) (tr : List St) (h0 : AW) (F0 : Fr) (ψ : Map) (listed : Array Bool) (k : Nat) (a : Act) (w : World) : Prop where
  size : listed.size = ops.size
  down : ∀ (j : Nat) (oj : Oper), ops.toList[j]? = some oj → listed[j]? = some true → ∀ e, e ∈ oj.after.toList → Region.binds .any e = true → listed[e.on]? = some true
  kle : k ≤ (acts 0 tr).length
  kth : ∀ (m i : Nat) (x : AW), (acts 0 tr)[m]? = some (i, x) → (listed[i]? = some true ↔ m < k)
  heap : HRel B0 w0 ψ (hAt h0 (acts 0 tr) k) w
  glob : Glob P ψ
  n : a.tmps.size = F0.n
  vals : ∀ (j : Nat) (s : St), tr[j]? = some s → listed[j]? = some true → ∀ t : Nat, s.o.dst = some t → VRel ψ s.v (a.eval (.tmp t))
  rest : ∀ t : Nat, (∀ (j : Nat) (s : St), tr[j]? = some s → listed[j]? = some true → s.o.dst ≠ some t) → VRel ψ (F0.ev (.tmp t)) (a.eval (.tmp t))

theorem eval_put {a : Act} {d : Option Tmp} {v : Value} (hd : ∀ x : Nat, d = some x → x < a.tmps.size) (t : Nat) : (a.put d v).eval (.tmp t) = if d = some t then v else a.eval (.tmp t) := by
  cases d with
  | none => simp [Act.put]
  | some d =>
    have hlt := hd d rfl
    by_cases htd : d = t
    · subst htd
      rw [if_pos rfl]
      simp only [Act.put, Act.eval]
      rw [Array.getD_eq_getD_getElem?, Array.getElem?_setIfInBounds_self, if_pos hlt]
      rfl
    · rw [if_neg (fun e => htd (Option.some.inj e))]
      simp only [Act.put, Act.eval]
      rw [Array.getD_eq_getD_getElem?, Array.getElem?_setIfInBounds_ne htd, ← Array.getD_eq_getD_getElem?]

theorem lst_set {listed : Array Bool} {j : Nat} (hj : j < listed.size) (i : Nat) : (listed.setIfInBounds j true)[i]? = some true ↔ i = j ∨ listed[i]? = some true := by
  by_cases h : i = j
  · subst h; simp [hj]
  · rw [Array.getElem?_setIfInBounds_ne (Ne.symm h)]; simp [h]

theorem bef_listed {ops : List Oper} (S : Static ops) {listed : Array Bool} (hdown : ∀ (j : Nat) (oj : Oper), ops[j]? = some oj → listed[j]? = some true → ∀ e, e ∈ oj.after.toList → Region.binds .any e = true → listed[e.on]? = some true) :
    ∀ (n j : Nat), j < n → ∀ oj, ops[j]? = some oj → (∀ e, e ∈ oj.after.toList → Region.binds .any e = true → listed[e.on]? = some true) → ∀ i, bef (masks ops []) i j = true → listed[i]? = some true := by
  intro n
  induction n with
  | zero => intro j hj; omega
  | succ n ih =>
    intro j hj oj hoj he i hb
    obtain ⟨e, hm, hbi, hc⟩ := S.mask j oj i hoj hb
    rcases hc with rfl | hc
    · exact he e hm hbi
    · have hlt := S.edge j oj hoj e hm hbi
      have hlen : j < ops.length := by
        rcases Nat.lt_or_ge j ops.length with hx | hx
        · exact hx
        · rw [List.getElem?_eq_none hx] at hoj; cases hoj
      obtain ⟨oe, hoe⟩ : ∃ oe, ops[e.on]? = some oe := ⟨_, List.getElem?_eq_getElem (by omega)⟩
      exact ih e.on (by omega) oe hoe (hdown e.on oe hoe (he e hm hbi)) i hc

/-- What is known of the trace of a region. -/
structure Trace (P : Program) (call : FuncId → List Value → AW → Option (Value × AW)) (ops : Array Oper) (tr : List St) (F0 F' : Fr) (h0 h' : AW) : Prop where
  len : tr.length = ops.toList.length
  at_ : ∀ (j : Nat) (s : St), tr[j]? = some s → ops.toList[j]? = some s.o ∧ StSpec P call ops.toList s ∧ s.F.n = F0.n
  n : F'.n = F0.n
  fr : ∀ (j : Nat) (s : St), tr[j]? = some s → ∀ t : Nat, (∃ (i : Nat) (s' : St), i < j ∧ tr[i]? = some s' ∧ s'.o.dst = some t ∧ s.F.ev (.tmp t) = s'.v) ∨ ((∀ (i : Nat) (s' : St), i < j → tr[i]? = some s' → s'.o.dst ≠ some t) ∧ s.F.ev (.tmp t) = F0.ev (.tmp t))
  fin : ∀ t : Nat, (∃ (i : Nat) (s' : St), tr[i]? = some s' ∧ s'.o.dst = some t ∧ F'.ev (.tmp t) = s'.v) ∨ ((∀ (i : Nat) (s' : St), tr[i]? = some s' → s'.o.dst ≠ some t) ∧ F'.ev (.tmp t) = F0.ev (.tmp t))
  hp : ∀ (j : Nat) (s : St), tr[j]? = some s → s.h = hAt h0 (acts 0 tr) (acts 0 (tr.take j)).length ∧ (∀ h2, s.act = some h2 → (acts 0 tr)[(acts 0 (tr.take j)).length]? = some (j, h2))
  last : h' = hAt h0 (acts 0 tr) (acts 0 tr).length

theorem trace_of {call : FuncId → List Value → AW → Option (Value × AW)} {ops : Array Oper} {F F' : Fr} {tr : List St} (ht : traceOps P call ops.toList ops.toList F h = some (tr, F', h')) : Trace P call ops tr F F' h h' := by
  obtain ⟨q1, q2, q3, q4, q5, q6, q7⟩ := trace_spec ops.toList F h tr F' h' ht
  refine ⟨q1, q2, q3, fun j s hj t => ?_, fun t => ?_, fun j s hj => ?_, q7 0⟩
  · rcases q4 j s hj t with ⟨i, s', a, b, c, d, _⟩ | b
    · exact .inl ⟨i, s', a, b, c, d⟩
    · exact .inr b
  · rcases q5 t with ⟨i, s', b, c, d, _⟩ | b
    · exact .inl ⟨i, s', b, c, d⟩
    · exact .inr b
  · have := q6 j s hj 0
    exact ⟨this.1, fun h2 e => by have := this.2 h2 e; rwa [Nat.zero_add] at this⟩

variable {call : FuncId → List Value → AW → Option (Value × AW)} {ops : Array Oper} {tr : List St} {F0 F' : Fr}

theorem Inv.step {B1 : Zn} {w1 : World} {listed : Array Bool} {k : Nat} {a : Act} (S : Static ops.toList) (T : Trace P call ops tr F0 F' h0 h') (I : Inv P B1 w1 ops tr h0 F0 ψ listed k a w) {j : Nat} {s : St} (hj : tr[j]? = some s)
    (hre : ∀ e, e ∈ s.o.after.toList → Region.binds .any e = true → listed[e.on]? = some true) (hnl : listed[j]? = some false) {ψ' : Map} (hle : ψ.le ψ') {v' : Value} (hv : VRel ψ' s.v v') {k' : Nat}
    (hk : (s.act = none ∧ k' = k) ∨ (∃ x, (acts 0 tr)[k]? = some (j, x) ∧ k' = k + 1)) {w' : World} (H' : HRel B0 w0 ψ' (hAt h0 (acts 0 tr) k') w') :
    Inv P B0 w0 ops tr h0 F0 ψ' (listed.setIfInBounds j true) k' (a.put s.o.dst v') w' := by
  obtain ⟨hoj, hspec, hsn⟩ := T.at_ j s hj
  have hjs : j < listed.size := by
    rcases Nat.lt_or_ge j listed.size with hx | hx
    · exact hx
    · rw [Array.getElem?_eq_none hx] at hnl; cases hnl
  have hroom : ∀ x : Nat, s.o.dst = some x → x < a.tmps.size := fun x hx => by have := hspec.room x hx; rw [hsn] at this; rw [I.n]; exact this
  refine ⟨by simpa using I.size, ?_, ?_, ?_, H', I.glob.mono hle, ?_, ?_, ?_⟩
  · intro i oi hi hl e he hb
    rw [lst_set hjs] at hl ⊢
    rcases hl with rfl | hl
    · rw [hoj] at hi; cases hi
      exact .inr (hre e he hb)
    · exact .inr (I.down i oi hi hl e he hb)
  · rcases hk with ⟨_, rfl⟩ | ⟨x, hx, rfl⟩
    · exact I.kle
    · rcases Nat.lt_or_ge k (acts 0 tr).length with hy | hy
      · exact hy
      · rw [List.getElem?_eq_none hy] at hx; cases hx
  · intro m i x hm
    rw [lst_set hjs]
    have hI := I.kth m i x hm
    rcases hk with ⟨hn, rfl⟩ | ⟨y, hy, rfl⟩
    · have hne : i ≠ j := by
        rintro rfl
        obtain ⟨_, ⟨s', a1, a2⟩, _⟩ := acts_at tr 0 m i x hm
        rw [Nat.sub_zero, hj] at a1
        cases a1
        rw [hn] at a2; cases a2
      simp only [hne, false_or]
      exact hI
    · by_cases hij : i = j
      · subst hij
        have e1 := (acts_at tr 0 m i x hm).2.2
        have e2 := (acts_at tr 0 k i y hy).2.2
        have : m = k := e1.trans e2.symm
        subst this
        simp
      · simp only [hij, false_or, hI]
        constructor
        · intro hx; omega
        · intro hx
          rcases Nat.lt_or_ge m k with hz | hz
          · exact hz
          · have : m = k := by omega
            subst this
            rw [hm] at hy; cases hy; exact absurd rfl hij
  · have : (a.put s.o.dst v').tmps.size = a.tmps.size := by cases s.o.dst <;> simp [Act.put]
    rw [this]; exact I.n
  · intro i si hi hl t ht
    rw [eval_put hroom]
    rw [lst_set hjs] at hl
    by_cases hij : i = j
    · subst hij
      rw [hj] at hi; cases hi
      rw [if_pos ht]; exact hv
    · have hl' : listed[i]? = some true := by simpa [hij] using hl
      have hne := (S.pair i j si.o s.o (T.at_ i si hi).1 hoj hij t ht).1
      rw [if_neg hne]
      exact (I.vals i si hi hl' t ht).mono hle
  · intro t ht
    rw [eval_put hroom]
    have hnj : s.o.dst ≠ some t := ht j s hj (by rw [lst_set hjs]; exact .inl rfl)
    rw [if_neg hnj]
    exact (I.rest t fun i si hi hl => ht i si hi (by rw [lst_set hjs]; exact .inr hl)).mono hle

/-- What an operation that may come next looks at is what the text's own order shows it. -/
theorem Inv.reads {listed : Array Bool} {k : Nat} {a : Act} (S : Static ops.toList) (T : Trace P call ops tr F0 F' h0 h') (I : Inv P B0 w0 ops tr h0 F0 ψ listed k a w) {j : Nat} {s : St} (hj : tr[j]? = some s)
    (hre : ∀ e, e ∈ s.o.after.toList → Region.binds .any e = true → listed[e.on]? = some true) (hnl : listed[j]? = some false) :
    ∀ t, t ∈ readsOf ops.toList s.o → VRel ψ (s.F.ev (.tmp t)) (a.eval (.tmp t)) := by
  intro t ht
  obtain ⟨hoj, hspec, hsn⟩ := T.at_ j s hj
  rcases T.fr j s hj t with ⟨i, si, a1, a2, a3, a4⟩ | ⟨b1, b2⟩
  · have hb := ((S.pair i j si.o s.o (T.at_ i si a2).1 hoj (by omega) t a3).2 ht).1 a1
    have hl := bef_listed S I.down (j + 1) j (by omega) s.o hoj hre i hb
    rw [a4]
    exact I.vals i si a2 hl t a3
  · rw [b2]
    refine I.rest t fun i si hi hl hd => ?_
    rcases Nat.lt_or_ge i j with hlt | hge
    · exact b1 i si hlt hi hd
    · have hne : i ≠ j := by rintro rfl; rw [hnl] at hl; cases hl
      have hb := ((S.pair i j si.o s.o (T.at_ i si hi).1 hoj hne t hd).2 ht).2 (by omega)
      have := bef_listed S I.down (i + 1) i (by omega) si.o (T.at_ i si hi).1 (I.down i si.o (T.at_ i si hi).1 hl) j hb
      rw [hnl] at this; cases this

theorem ready_spec {listed : Array Bool} (hsz : listed.size = ops.size) {i : Nat} (hi : i ∈ Region.ready .any ops listed) :
    listed[i]? = some false ∧ ∃ o, ops[i]? = some o ∧ ∀ e, e ∈ o.after.toList → Region.binds .any e = true → listed[e.on]? = some true := by
  unfold Region.ready at hi
  simp only [List.mem_filter, List.mem_range, Bool.and_eq_true, Bool.not_eq_true'] at hi
  obtain ⟨h1, h2, h3⟩ := hi
  rw [Array.getD_eq_getD_getElem?, Array.getElem?_eq_getElem (by omega)] at h2
  refine ⟨by rw [Array.getElem?_eq_getElem (by omega)]; exact congrArg some h2, ?_⟩
  rw [Array.getElem?_eq_getElem h1] at h3
  simp only [Option.map_some, Option.getD_some] at h3
  refine ⟨ops[i], Array.getElem?_eq_getElem h1, fun e he hb => ?_⟩
  rw [Array.all_eq_true'] at h3
  have := h3 e (by simpa using he)
  rw [hb] at this
  simp only [Bool.not_true, Bool.false_or] at this
  rw [Array.getD_eq_getD_getElem?] at this
  cases hx : listed[e.on]? with
  | none => rw [hx] at this; cases this
  | some b => rw [hx] at this; simp only [Option.getD_some] at this; rw [this]

theorem all_listed {listed : Array Bool} (hsz : listed.size = ops.size) (S : Static ops.toList) (hr : Region.ready .any ops listed = []) : ∀ (n i : Nat), i < n → i < ops.size → listed[i]? = some true := by
  intro n
  induction n with
  | zero => intro i hi; omega
  | succ n ih =>
    intro i hi hlt
    cases hl : listed[i]? with
    | none => rw [Array.getElem?_eq_getElem (by omega)] at hl; cases hl
    | some b =>
      cases b with
      | true => rfl
      | false =>
        exfalso
        have hmem : i ∈ Region.ready .any ops listed := by
          unfold Region.ready
          simp only [List.mem_filter, List.mem_range, Bool.and_eq_true, Bool.not_eq_true']
          refine ⟨hlt, ?_, ?_⟩
          · rw [Array.getD_eq_getD_getElem?, hl]; rfl
          · rw [Array.getElem?_eq_getElem hlt]
            simp only [Option.map_some, Option.getD_some]
            rw [Array.all_eq_true']
            intro e he
            cases hb : Region.binds .any e with
            | false => rfl
            | true =>
              have hlt' := S.edge i ops[i] (by rw [Array.getElem?_toList]; exact Array.getElem?_eq_getElem hlt) e (by simpa using he) hb
              rw [Array.getD_eq_getD_getElem?, ih e.on (by omega) (by omega)]; rfl
        rw [hr] at hmem; cases hmem

theorem drawn_any (hcall : CallOk P B0 w0 call) (hok : opersOk P.globals.size ops.toList = true) (S : Static ops.toList) (T : Trace P call ops tr F0 F' h0 h') (hch : chainOk (masks ops.toList []) (acts 0 tr) = true) (hst : stsOk P (masks ops.toList []) h0 (acts 0 tr) 0 0 tr = true) {Q : Exit → Act → World → Prop} {φ : Map} {a0 : Act}
    (hQ : ∀ ψ a' w', φ.le ψ → FRel ψ F' a' → HRel B0 w0 ψ h' w' → a'.defers = a0.defers → Q .normal a' w') :
    ∀ (fuel : Nat) (listed : Array Bool) (k : Nat) (ψ : Map) (a : Act) (w : World), Inv P B0 w0 ops tr h0 F0 ψ listed k a w → unl listed ≤ fuel → φ.le ψ → a.defers = a0.defers → wpAny P .any ops Q fuel listed a w := by
  have hdef : ∀ (a : Act) d v, (a.put d v).defers = a.defers := fun a d v => by cases d <;> rfl
  have fin : ∀ (listed : Array Bool) (k : Nat) (ψ : Map) (a : Act) (w : World), Inv P B0 w0 ops tr h0 F0 ψ listed k a w → φ.le ψ → a.defers = a0.defers → Region.ready .any ops listed = [] → Q .normal a w := by
    intro listed k ψ a w I hle hd hr
    have hall : ∀ i, i < ops.size → listed[i]? = some true := fun i hi => all_listed I.size S hr (i + 1) i (by omega) hi
    have hlt : ∀ (i : Nat) (s : St), tr[i]? = some s → i < ops.size := fun i s hi => by
      have : i < tr.length := by
        rcases Nat.lt_or_ge i tr.length with hx | hx
        · exact hx
        · rw [List.getElem?_eq_none hx] at hi; cases hi
      rw [T.len] at this; simpa using this
    refine hQ ψ a w hle ⟨by rw [I.n, T.n], fun t => ?_⟩ ?_ hd
    · rcases T.fin t with ⟨i, si, a1, a2, a3⟩ | ⟨b1, b2⟩
      · rw [a3]; exact I.vals i si a1 (hall i (hlt i si a1)) t a2
      · rw [b2]; exact I.rest t fun i si hi _ => b1 i si hi
    · have hk : k = (acts 0 tr).length := by
        rcases Nat.lt_or_ge k (acts 0 tr).length with hx | hx
        · obtain ⟨⟨i, x⟩, hix⟩ : ∃ p, (acts 0 tr)[k]? = some p := ⟨_, List.getElem?_eq_getElem hx⟩
          obtain ⟨_, ⟨s, a1, _⟩, _⟩ := acts_at tr 0 k i x hix
          have := (I.kth k i x hix).1 (hall i (hlt i s (by simpa using a1)))
          omega
        · exact Nat.le_antisymm I.kle hx
      rw [T.last, ← hk]
      exact I.heap
  intro fuel
  induction fuel with
  | zero =>
    intro listed k ψ a w I hu hle hd
    have hr : Region.ready .any ops listed = [] := by
      cases hx : Region.ready .any ops listed with
      | nil => rfl
      | cons i l =>
        have := (ready_spec I.size (i := i) (by rw [hx]; simp)).1
        have := unl_set this
        omega
    exact ⟨hr, fin listed k ψ a w I hle hd hr⟩
  | succ fuel ih =>
    intro listed k ψ a w I hu hle hd
    refine ⟨fin listed k ψ a w I hle hd, fun j hj => ?_⟩
    obtain ⟨hnl, o, ho, hre⟩ := ready_spec I.size hj
    have huu := unl_set hnl
    have hol : ops.toList[j]? = some o := by simpa using ho
    obtain ⟨s, hs⟩ : ∃ s, tr[j]? = some s := by
      have : j < tr.length := by
        rw [T.len]
        rcases Nat.lt_or_ge j ops.toList.length with hx | hx
        · exact hx
        · rw [List.getElem?_eq_none hx] at hol; cases hol
      exact ⟨_, List.getElem?_eq_getElem this⟩
    obtain ⟨hoj, hspec, hsn⟩ := T.at_ j s hs
    rw [hol] at hoj
    obtain rfl := Option.some.inj hoj
    have hreads := I.reads S T hs hre hnl
    have hmem : s.o ∈ ops.toList := List.mem_of_getElem? hol
    have hops := opersOk_spec hok s.o hmem
    have hrev : Rev ψ s.F a.eval s.o.op.operands.toList := rev_of hops I.glob fun t ht => hreads t (List.mem_append_left _ ht)
    have hwant := guard_ok' (ops := ops) (o := s.o) (a := a) (fun g want og d h1 h2 h3 => hreads d (by
      unfold readsOf
      refine List.mem_append_right _ ?_
      rw [h1]
      simp only [h2, h3, List.mem_singleton])) hspec.guard
    have next : ∀ (ψ' : Map) (v' : Value) (w' : World) (k' : Nat), ψ.le ψ' → VRel ψ' s.v v' → ((s.act = none ∧ k' = k) ∨ (∃ x, (acts 0 tr)[k]? = some (j, x) ∧ k' = k + 1)) → HRel B0 w0 ψ' (hAt h0 (acts 0 tr) k') w' →
        wpAny P .any ops Q fuel (listed.setIfInBounds j true) (a.put s.o.dst v') w' := fun ψ' v' w' k' hle' hv hk H' =>
      ih _ k' ψ' _ w' (I.step S T hs hre hnl hle' hv hk H') (by omega) (Map.le_trans hle hle') ((hdef _ _ _).trans hd)
    unfold wpOp
    rw [ho]
    simp only
    rw [hwant]
    cases hw : s.want with
    | false =>
      rw [if_neg (by simp)]
      obtain ⟨e1, e2⟩ := hspec.off hw
      exact next ψ undef w k ψ.le_refl (by rw [e2]; exact VRel.undef) (.inl ⟨e1, rfl⟩) I.heap
    | true =>
      rw [if_pos rfl]
      refine .inl ?_
      have hbl : ∀ i, bef (masks ops.toList []) i j = true → listed[i]? = some true := fun i hb => bef_listed S I.down (j + 1) j (by omega) s.o hol hre i hb
      cases ha : s.act with
      | none =>
        have hq := hspec.quiet hw ha
        have same : ∃ v, opQ P s.F (hAt h0 (acts 0 tr) k) s.o.op = some v ∧ v = s.v := by
          cases hlk : looks s.o.op with
          | false => exact ⟨s.v, by rw [opQ_still hlk]; exact hq, rfl⟩
          | true =>
            have hst' := sts_spec hst j s hs
            rw [Nat.zero_add, Nat.zero_add] at hst'
            unfold stOk at hst'
            rw [ha, hw, hlk] at hst'
            simp only [Bool.not_true, Bool.false_or] at hst'
            have hchk := chk_spec (acts 0 tr) 0 h0 k hst' I.kle
              (fun m p hm hp => by
                cases hb : bef (masks ops.toList []) j p.1 with
                | false => rfl
                | true =>
                  obtain ⟨i, x⟩ := p
                  have hl := (I.kth m i x hp).2 hm
                  obtain ⟨_, ⟨si, a1, _⟩, _⟩ := acts_at tr 0 m i x hp
                  rw [Nat.sub_zero] at a1
                  have hoi := (T.at_ i si a1).1
                  have := bef_listed S I.down (i + 1) i (by omega) si.o hoi (I.down i si.o hoi hl) j hb
                  rw [hnl] at this; cases this)
              (fun m p hm hp => by
                cases hb : bef (masks ops.toList []) p.1 j with
                | false => rfl
                | true =>
                  obtain ⟨i, x⟩ := p
                  have := (I.kth m i x hp).1 (hbl i hb)
                  omega)
            rcases hchk with e | e
            · have := (T.hp j s hs).1
              rw [Nat.zero_add] at e
              rw [e, ← this]
              exact ⟨s.v, hq, rfl⟩
            · split at e
              · rename_i v hv
                exact ⟨v, hv, beqV_ok _ _ _ e⟩
              · cases e
        obtain ⟨v, hv, rfl⟩ := same
        obtain ⟨v', hrun, hvr⟩ := opQ_ok (P := P) I.heap hrev hv
        unfold Oper.wp
        rw [hrun, Oper.upon_value]
        exact next ψ v' w k ψ.le_refl hvr (.inl ⟨ha, rfl⟩) I.heap
      | some h2 =>
        obtain ⟨_, hact⟩ := hspec.turn h2 ha
        obtain ⟨hsh, hm⟩ := T.hp j s hs
        have hm := hm h2 ha
        generalize (acts 0 (tr.take j)).length = m at hsh hm
        have hmk : m = k := by
          have hnot : ¬ m < k := fun hlt => by
            have := (I.kth m j h2 hm).2 hlt
            rw [hnl] at this; cases this
          rcases Nat.lt_or_ge k m with hlt | hge
          · exfalso
            obtain ⟨m', rfl⟩ : ∃ m', m = m' + 1 := ⟨m - 1, by omega⟩
            obtain ⟨⟨i, x⟩, hix⟩ : ∃ p, (acts 0 tr)[m']? = some p := by
              have : m' < (acts 0 tr).length := by
                rcases Nat.lt_or_ge m' (acts 0 tr).length with hx | hx
                · exact hx
                · rw [List.getElem?_eq_none (by omega)] at hm; cases hm
              exact ⟨_, List.getElem?_eq_getElem this⟩
            have := (I.kth m' i x hix).1 (hbl i (chain_spec hch m' (i, x) (j, h2) hix hm))
            omega
          · omega
        subst hmk
        rw [hsh] at hact
        refine act_ok hcall hrev I.heap I.glob hact _ Q fun ψ' v' w' hle' hv H' => ?_
        refine next ψ' v' w' (m + 1) hle' hv (.inr ⟨h2, hm, rfl⟩) ?_
        rw [hAt_succ _ _ _ _ hm]
        exact H'

/-- One operation that may come next. -/
theorem exec_one (hcall : CallOk P B0 w0 call) (hok : opersOk P.globals.size ops.toList = true) (S : Static ops.toList) (T : Trace P call ops tr F0 F' h0 h') (hst : stsOk P (masks ops.toList []) h0 (acts 0 tr) 0 0 tr = true)
    {listed : Array Bool} {k : Nat} {a0 a : Act} (I : Inv P B0 w0 ops tr h0 F0 ψ listed k a0 w) {j : Nat} {s : St} (hs : tr[j]? = some s) (hre : ∀ e, e ∈ s.o.after.toList → Region.binds .any e = true → listed[e.on]? = some true) (hnl : listed[j]? = some false)
    (hea : ∀ t, t ∈ readsOf ops.toList s.o → a.eval (.tmp t) = a0.eval (.tmp t)) (hact : ∀ h2, s.act = some h2 → ∃ x, (acts 0 tr)[k]? = some (j, x)) {K : Act → World → Prop} {Q : Exit → Act → World → Prop}
    (next : ∀ ψ' v' w' k', ψ.le ψ' → VRel ψ' s.v v' → ((s.act = none ∧ k' = k) ∨ (∃ x, (acts 0 tr)[k]? = some (j, x) ∧ k' = k + 1)) → HRel B0 w0 ψ' (hAt h0 (acts 0 tr) k') w' → K (a.put s.o.dst v') w') : wpOp P ops Q j K a w := by
  obtain ⟨hol, hspec, hsn⟩ := T.at_ j s hs
  have ho : ops[j]? = some s.o := by simpa using hol
  have hreads0 := I.reads S T hs hre hnl
  have hreads : ∀ t, t ∈ readsOf ops.toList s.o → VRel ψ (s.F.ev (.tmp t)) (a.eval (.tmp t)) := fun t ht => by rw [hea t ht]; exact hreads0 t ht
  have hmem : s.o ∈ ops.toList := List.mem_of_getElem? hol
  have hops := opersOk_spec hok s.o hmem
  have hrev : Rev ψ s.F a.eval s.o.op.operands.toList := rev_of hops I.glob fun t ht => hreads t (List.mem_append_left _ ht)
  have hwant := guard_ok' (ops := ops) (o := s.o) (a := a) (fun g want og d h1 h2 h3 => hreads d (by
    unfold readsOf
    refine List.mem_append_right _ ?_
    rw [h1]
    simp only [h2, h3, List.mem_singleton])) hspec.guard
  unfold wpOp
  rw [ho]
  simp only
  rw [hwant]
  cases hw : s.want with
  | false =>
    rw [if_neg (by simp)]
    obtain ⟨e1, e2⟩ := hspec.off hw
    exact next ψ undef w k ψ.le_refl (by rw [e2]; exact VRel.undef) (.inl ⟨e1, rfl⟩) I.heap
  | true =>
    rw [if_pos rfl]
    refine .inl ?_
    have hbl : ∀ i, bef (masks ops.toList []) i j = true → listed[i]? = some true := fun i hb => bef_listed S I.down (j + 1) j (by omega) s.o hol hre i hb
    cases ha : s.act with
    | none =>
      have hq := hspec.quiet hw ha
      have same : ∃ v, opQ P s.F (hAt h0 (acts 0 tr) k) s.o.op = some v ∧ v = s.v := by
        cases hlk : looks s.o.op with
        | false => exact ⟨s.v, by rw [opQ_still hlk]; exact hq, rfl⟩
        | true =>
          have hst' := sts_spec hst j s hs
          rw [Nat.zero_add, Nat.zero_add] at hst'
          unfold stOk at hst'
          rw [ha, hw, hlk] at hst'
          simp only [Bool.not_true, Bool.false_or] at hst'
          have hchk := chk_spec (acts 0 tr) 0 h0 k hst' I.kle
            (fun m p hm hp => by
              cases hb : bef (masks ops.toList []) j p.1 with
              | false => rfl
              | true =>
                obtain ⟨i, x⟩ := p
                have hl := (I.kth m i x hp).2 hm
                obtain ⟨_, ⟨si, a1, _⟩, _⟩ := acts_at tr 0 m i x hp
                rw [Nat.sub_zero] at a1
                have hoi := (T.at_ i si a1).1
                have := bef_listed S I.down (i + 1) i (by omega) si.o hoi (I.down i si.o hoi hl) j hb
                rw [hnl] at this; cases this)
            (fun m p hm hp => by
              cases hb : bef (masks ops.toList []) p.1 j with
              | false => rfl
              | true =>
                obtain ⟨i, x⟩ := p
                have := (I.kth m i x hp).1 (hbl i hb)
                omega)
          rcases hchk with e | e
          · have := (T.hp j s hs).1
            rw [Nat.zero_add] at e
            rw [e, ← this]
            exact ⟨s.v, hq, rfl⟩
          · split at e
            · rename_i v hv
              exact ⟨v, hv, beqV_ok _ _ _ e⟩
            · cases e
      obtain ⟨v, hv, hvs⟩ := same
      obtain ⟨v', hrun, hvr⟩ := opQ_ok (P := P) I.heap hrev hv
      unfold Oper.wp
      rw [hrun, Oper.upon_value]
      exact next ψ v' w k ψ.le_refl (by rw [← hvs]; exact hvr) (.inl ⟨ha, rfl⟩) I.heap
    | some h2 =>
      obtain ⟨_, hact2⟩ := hspec.turn h2 ha
      obtain ⟨hsh, hm⟩ := T.hp j s hs
      have hm := hm h2 ha
      generalize (acts 0 (tr.take j)).length = m at hsh hm
      obtain ⟨x, hx⟩ := hact h2 ha
      have hmk : m = k := (acts_at tr 0 m j h2 hm).2.2.trans (acts_at tr 0 k j x hx).2.2.symm
      subst hmk
      rw [hsh] at hact2
      refine act_ok hcall hrev I.heap I.glob hact2 _ Q fun ψ' v' w' hle' hv H' => ?_
      refine next ψ' v' w' (m + 1) hle' hv (.inr ⟨h2, hm, rfl⟩) ?_
      rw [hAt_succ _ _ _ _ hm]
      exact H'

theorem befAll_spec {M : List Nat} {j : Nat} : ∀ {l : List Nat}, befAll M l j = true → ∀ i, i ∈ l → bef M i j = true
  | x :: l, h, i, hi => by
    simp only [befAll, Bool.and_eq_true] at h
    rcases List.mem_cons.1 hi with rfl | hm
    · exact h.1
    · exact befAll_spec h.2 i hm
theorem pairsBut_spec {M : List Nat} {z : Nat} : ∀ {As : List (Nat × AW)} {pre : List Nat}, pairsBut M z pre As = true → (∀ (m : Nat) (p : Nat × AW), As[m]? = some p → p.1 ≠ z → ∀ i, i ∈ pre → bef M i p.1 = true) ∧
    ∀ (m1 m2 : Nat) (p1 p2 : Nat × AW), m1 < m2 → As[m1]? = some p1 → As[m2]? = some p2 → p2.1 ≠ z → bef M p1.1 p2.1 = true
  | [], pre, h => ⟨fun m p hp => by simp at hp, fun m1 m2 p1 p2 _ h1 => by simp at h1⟩
  | (j, x) :: l, pre, h => by
    simp only [pairsBut, Bool.and_eq_true, Bool.or_eq_true] at h
    obtain ⟨a, b⟩ := pairsBut_spec h.2
    refine ⟨fun m p hp hz i hi => ?_, fun m1 m2 p1 p2 hlt h1 h2 hz => ?_⟩
    · cases m with
      | zero =>
        simp at hp; subst hp
        rcases h.1 with e | e
        · exact absurd (beq_true e) hz
        · exact befAll_spec e i hi
      | succ m => exact a m p (by simpa using hp) hz i (List.mem_cons_of_mem _ hi)
    · cases m2 with
      | zero => omega
      | succ m2 =>
        have h2 : l[m2]? = some p2 := by simpa using h2
        cases m1 with
        | zero =>
          simp at h1; subst h1
          exact a m2 p2 h2 hz j (by simp)
        | succ m1 => exact b m1 m2 p1 p2 (by omega) (by simpa using h1) h2 hz
theorem preOf_spec {z : Nat} : ∀ {As : List (Nat × AW)} {m m' : Nat} {p : Nat × AW}, m' < m → As[m']? = some p → (∀ (q : Nat) (r : Nat × AW), q < m → As[q]? = some r → r.1 ≠ z) → p.1 ∈ preOf z As
  | [], m, m', p, _, h, _ => by simp at h
  | (i, x) :: l, m, m', p, hlt, h, hn => by
    have h0 : i ≠ z := hn 0 (i, x) (by omega) rfl
    have hb : Nat.beq i z = false := by
      cases hb : Nat.beq i z with
      | false => rfl
      | true => exact absurd (beq_true hb) h0
    simp only [preOf, hb]
    cases m' with
    | zero => simp at h; subst h; exact List.mem_cons_self ..
    | succ m' =>
      refine List.mem_cons_of_mem _ (preOf_spec (m := m - 1) (m' := m') (by omega) (by simpa using h) fun q r hq hr => hn (q + 1) r (by omega) (by simpa using hr))
theorem edgeTo_spec {z : Nat} : ∀ {l : List Edge} {e : Edge}, e ∈ l → e.on = z → edgeTo z l = true
  | x :: l, e, h, hz => by
    simp only [edgeTo, Bool.or_eq_true]
    rcases List.mem_cons.1 h with rfl | hm
    · left; rw [hz]; exact Nat.beq_refl z
    · exact .inr (edgeTo_spec hm hz)
theorem depsOk_spec {M : List Nat} {z : Nat} {pre : List Nat} : ∀ {l : List Oper} {k : Nat}, depsOk M z pre k l = true → ∀ (j : Nat) (o : Oper), l[j]? = some o → (bef M z (k + j) = true ∨ ∃ e, e ∈ o.after.toList ∧ e.on = z) → ∀ i, i ∈ pre → bef M i (k + j) = true
  | [], k, h, j, o, hj => by simp at hj
  | x :: l, k, h, j, o, hj => by
    simp only [depsOk, Bool.and_eq_true] at h
    cases j with
    | zero =>
      simp at hj; subst hj
      intro hd i hi
      have h1 := h.1
      have : (bef M z k || edgeTo z x.after.toList) = true := by
        rw [Bool.or_eq_true]
        rcases hd with e | ⟨e, a, b⟩
        · exact .inl e
        · exact .inr (edgeTo_spec a b)
      rw [this] at h1
      exact befAll_spec (by simpa using h1) i hi
    | succ j =>
      simp at hj
      have := depsOk_spec h.2 j o hj
      rwa [show k + 1 + j = k + (j + 1) from by omega] at this

/-- What is known of the one operation that may come early. -/
structure Free (ops : Array Oper) (tr : List St) (z m : Nat) (sz : St) (dz : Nat) (x : AW) : Prop where
  at_ : tr[z]? = some sz
  ix : (acts 0 tr)[m]? = some (z, x)
  dst : sz.o.dst = some dz
  new : (∃ t, sz.o.op = .alloc t) ∨ ∃ t len parts, sz.o.op = .buildSlice t len parts
  pairs : ∀ (m1 m2 : Nat) (p1 p2 : Nat × AW), m1 < m2 → (acts 0 tr)[m1]? = some p1 → (acts 0 tr)[m2]? = some p2 → p2.1 ≠ z → bef (masks ops.toList []) p1.1 p2.1 = true
  deps : ∀ (j : Nat) (o : Oper), ops.toList[j]? = some o → (bef (masks ops.toList []) z j = true ∨ ∃ e, e ∈ o.after.toList ∧ e.on = z) → ∀ (m1 : Nat) (p : Nat × AW), m1 < m → (acts 0 tr)[m1]? = some p → bef (masks ops.toList []) p.1 j = true
theorem free_of (T : Trace P call ops tr F0 F' h0 h') : ∀ {l : List (Nat × AW)}, (∀ p, p ∈ l → p ∈ acts 0 tr) → freeAny ops.toList (masks ops.toList []) (acts 0 tr) l = true → ∃ z m sz dz x, Free ops tr z m sz dz x
  | [], _, h => by simp [freeAny] at h
  | (z, x) :: l, hm, h => by
    simp only [freeAny, Bool.or_eq_true] at h
    rcases h with h | h
    · obtain ⟨m, hmm⟩ := List.mem_iff_getElem?.1 (hm (z, x) (by simp))
      obtain ⟨_, ⟨sz, h1, h2⟩, _⟩ := acts_at tr 0 m z x hmm
      rw [Nat.sub_zero] at h1
      have hoz := (T.at_ z sz h1).1
      unfold freeOne at h
      simp only [Bool.and_eq_true] at h
      obtain ⟨⟨e1, e2⟩, e3⟩ := h
      have hn : (∃ dz, sz.o.dst = some dz) ∧ ((∃ t, sz.o.op = .alloc t) ∨ ∃ t len parts, sz.o.op = .buildSlice t len parts) := by
        unfold isNew at e1
        rw [hoz] at e1
        simp only at e1
        split at e1
        · rename_i t ht; exact ⟨Option.isSome_iff_exists.1 e1, .inl ⟨t, ht⟩⟩
        · rename_i t len parts ht; exact ⟨Option.isSome_iff_exists.1 e1, .inr ⟨t, len, parts, ht⟩⟩
        · cases e1
      obtain ⟨⟨dz, hd⟩, hnew⟩ := hn
      refine ⟨z, m, sz, dz, x, h1, hmm, hd, hnew, (pairsBut_spec e2).2, fun j o hj hd m1 p hlt hp => ?_⟩
      have := depsOk_spec (k := 0) e3 j o hj (by rwa [Nat.zero_add]) p.1 (preOf_spec hlt hp fun q r hq hr e => ?_)
      · rwa [Nat.zero_add] at this
      · obtain ⟨i, y⟩ := r
        simp only at e
        subst e
        have := (acts_at tr 0 q i y hr).2.2.trans (acts_at tr 0 m i x hmm).2.2.symm
        omega
    · exact free_of T (fun p hp => hm p (List.mem_cons_of_mem _ hp)) h

/-- A block that nobody knows of. -/
theorem HRel.skip (H : HRel B0 w0 ψ h w) (x : Obj) : HRel ⟨B0.R, fun k => B0.Z k ∨ k = w.heap.size, fun k e => .inl (B0.sub k e)⟩ (w.alloc x) ψ h (w.alloc x) := by
  refine ⟨fun k hk => ?_, BelowZ.refl _ _, H.dom, fun i o y ho hy => ?_, fun i o ho => ?_, H.fam, H.sep⟩
  · rcases hk with hk | rfl
    · have := H.inn k hk; simp; omega
    · simp
  · have := H.lto i o y ho hy; simp; omega
  · obtain ⟨b, σ, κ, hp, hr⟩ := H.obj i o ho
    have hlt := H.lt ho hp
    have hr := hr.same (w' := w.alloc x) (by simp only [World.alloc, Array.getElem?_push]; rw [if_neg (Nat.ne_of_lt hlt)])
    refine ⟨b, σ, κ, hp, ?_⟩
    cases o with
    | var cs n ro =>
      obtain ⟨a1, a2, a3, a4, a5⟩ := hr
      exact ⟨a1, a2, a3, fun e => ⟨fun hz => hz.elim (a4 e).1 (Nat.ne_of_lt hlt), (a4 e).2⟩, a5⟩
    | row f g lo hi sz cs =>
      intro fm h2 h3
      obtain ⟨a1, a2⟩ := hr fm h2 h3
      exact ⟨fun hz => hz.elim a1 (Nat.ne_of_lt hlt), a2⟩
    | map es =>
      obtain ⟨a1, a2, a3, a4⟩ := hr
      exact ⟨a1, a2, fun hz => hz.elim a3 (Nat.ne_of_lt hlt), a4⟩
theorem put_comm {a : Act} {d : Option Tmp} {dz : Tmp} {v vz : Value} (h : d ≠ some dz) : (a.put (some dz) vz).put d v = (a.put d v).put (some dz) vz := by
  cases d with
  | none => rfl
  | some d =>
    have hne : dz ≠ d := fun e => h (by rw [e])
    simp only [Act.put]
    rw [Array.setIfInBounds_comm _ _ hne]

/-- The one operation has come early: its block is there, and nobody knows of it. -/
def Early (P : Program) (B0 : Zn) (w0 : World) (ops : Array Oper) (tr : List St) (h0 : AW) (F0 : Fr) (z m : Nat) (sz : St) (dz : Nat) (ψ : Map) (listed : Array Bool) (k : Nat) (a : Act) (w : World) : Prop :=
  ∃ B1 w1 l0 a0 v', listed = l0.setIfInBounds z true ∧ l0[z]? = some false ∧ a = a0.put (some dz) v' ∧ Inv P B1 w1 ops tr h0 F0 ψ l0 k a0 w ∧ k < m ∧ (∀ e, e ∈ sz.o.after.toList → Region.binds .any e = true → l0[e.on]? = some true) ∧
    ∀ ψ' W, ψ.le ψ' → HRel B1 w1 ψ' (hAt h0 (acts 0 tr) m) W → ∃ ψ'', ψ'.le ψ'' ∧ VRel ψ'' sz.v v' ∧ HRel B0 w0 ψ'' (hAt h0 (acts 0 tr) (m + 1)) W

theorem drawn_free (hcall : ∀ B w, CallOk P B w call) (hok : opersOk P.globals.size ops.toList = true) (S : Static ops.toList) (T : Trace P call ops tr F0 F' h0 h') {z m : Nat} {sz : St} {dz : Nat} {xz : AW} (Z : Free ops tr z m sz dz xz)
    (hst : stsOk P (masks ops.toList []) h0 (acts 0 tr) 0 0 tr = true) {Q : Exit → Act → World → Prop} {φ : Map} {a0 : Act}
    (hQ : ∀ ψ a' w', φ.le ψ → FRel ψ F' a' → HRel B0 w0 ψ h' w' → a'.defers = a0.defers → Q .normal a' w') :
    ∀ (fuel : Nat) (listed : Array Bool) (k : Nat) (ψ : Map) (a : Act) (w : World), Inv P B0 w0 ops tr h0 F0 ψ listed k a w ∨ Early P B0 w0 ops tr h0 F0 z m sz dz ψ listed k a w → unl listed ≤ fuel → φ.le ψ → a.defers = a0.defers → wpAny P .any ops Q fuel listed a w := by
  have hdef : ∀ (a : Act) d v, (a.put d v).defers = a.defers := fun a d v => by cases d <;> rfl
  obtain ⟨hoz, hzspec, hzn⟩ := T.at_ z sz Z.at_
  have hlt : ∀ (i : Nat) (s : St), tr[i]? = some s → i < ops.size := fun i s hi => by
    have : i < tr.length := by
      rcases Nat.lt_or_ge i tr.length with hx | hx
      · exact hx
      · rw [List.getElem?_eq_none hx] at hi; cases hi
    rw [T.len] at this; simpa using this
  have same : ∀ {q i : Nat} {y : AW} {q' : Nat} {y' : AW}, (acts 0 tr)[q]? = some (i, y) → (acts 0 tr)[q']? = some (i, y') → q = q' := fun hq hq' => (acts_at tr 0 _ _ _ hq).2.2.trans (acts_at tr 0 _ _ _ hq').2.2.symm
  have actIn : ∀ {q : Nat}, q < m → ∃ i y, (acts 0 tr)[q]? = some (i, y) ∧ i ≠ z := by
    intro q hq
    have hml : m < (acts 0 tr).length := (List.getElem?_eq_some_iff.1 Z.ix).1
    obtain ⟨⟨i, y⟩, hi⟩ : ∃ p, (acts 0 tr)[q]? = some p := ⟨_, List.getElem?_eq_getElem (by omega)⟩
    refine ⟨i, y, hi, ?_⟩
    rintro rfl
    have := same hi Z.ix
    omega
  have esize : ∀ {listed : Array Bool} {k : Nat} {ψ : Map} {a : Act} {w : World}, Inv P B0 w0 ops tr h0 F0 ψ listed k a w ∨ Early P B0 w0 ops tr h0 F0 z m sz dz ψ listed k a w → listed.size = ops.size := by
    rintro listed k ψ a w (I | ⟨B1, w1, l0, b0, v', rfl, _, _, I, _⟩)
    · exact I.size
    · rw [Array.size_setIfInBounds]; exact I.size
  have fin : ∀ (listed : Array Bool) (k : Nat) (ψ : Map) (a : Act) (w : World), Inv P B0 w0 ops tr h0 F0 ψ listed k a w ∨ Early P B0 w0 ops tr h0 F0 z m sz dz ψ listed k a w → φ.le ψ → a.defers = a0.defers → Region.ready .any ops listed = [] → Q .normal a w := by
    intro listed k ψ a w St hle hd hr
    have hall : ∀ i, i < ops.size → listed[i]? = some true := fun i hi => all_listed (esize St) S hr (i + 1) i (by omega) hi
    rcases St with I | ⟨B1, w1, l0, b0, v', rfl, hzl, rfl, I, hkm, _, _⟩
    · refine hQ ψ a w hle ⟨by rw [I.n, T.n], fun t => ?_⟩ ?_ hd
      · rcases T.fin t with ⟨i, si, a1, a2, a3⟩ | ⟨b1, b2⟩
        · rw [a3]; exact I.vals i si a1 (hall i (hlt i si a1)) t a2
        · rw [b2]; exact I.rest t fun i si hi _ => b1 i si hi
      · have hk : k = (acts 0 tr).length := by
          rcases Nat.lt_or_ge k (acts 0 tr).length with hx | hx
          · obtain ⟨⟨i, x⟩, hix⟩ : ∃ p, (acts 0 tr)[k]? = some p := ⟨_, List.getElem?_eq_getElem hx⟩
            obtain ⟨_, ⟨s, a1, _⟩, _⟩ := acts_at tr 0 k i x hix
            have := (I.kth k i x hix).1 (hall i (hlt i s (by simpa using a1)))
            omega
          · exact Nat.le_antisymm I.kle hx
        rw [T.last, ← hk]
        exact I.heap
    · exfalso
      obtain ⟨i, y, hi, hne⟩ := actIn hkm
      obtain ⟨_, ⟨s, a1, _⟩, _⟩ := acts_at tr 0 k i y hi
      have h1 := hall i (hlt i s (by simpa using a1))
      rw [Array.getElem?_setIfInBounds_ne (Ne.symm hne)] at h1
      have := (I.kth k i y hi).1 h1
      omega
  intro fuel
  induction fuel with
  | zero =>
    intro listed k ψ a w St hu hle hd
    have hr : Region.ready .any ops listed = [] := by
      cases hx : Region.ready .any ops listed with
      | nil => rfl
      | cons i l =>
        have := (ready_spec (esize St) (i := i) (by rw [hx]; simp)).1
        have := unl_set this
        omega
    exact ⟨hr, fin listed k ψ a w St hle hd hr⟩
  | succ fuel ih =>
    intro listed k ψ a w St hu hle hd
    refine ⟨fin listed k ψ a w St hle hd, fun j hj => ?_⟩
    obtain ⟨hnl, o, ho, hre⟩ := ready_spec (esize St) hj
    have huu := unl_set hnl
    have hol : ops.toList[j]? = some o := by simpa using ho
    obtain ⟨s, hs⟩ : ∃ s, tr[j]? = some s := by
      have : j < tr.length := by
        rw [T.len]
        rcases Nat.lt_or_ge j ops.toList.length with hx | hx
        · exact hx
        · rw [List.getElem?_eq_none hx] at hol; cases hol
      exact ⟨_, List.getElem?_eq_getElem this⟩
    obtain ⟨hoj, hspec, hsn⟩ := T.at_ j s hs
    rw [hol] at hoj
    obtain rfl := Option.some.inj hoj
    rcases St with I | ⟨B1, w1, l0, b0, vz, rfl, hzl, rfl, I, hkm, hrz, had⟩
    · -- nothing is pending
      have hidx : ∀ h2, s.act = some h2 → (∃ x, (acts 0 tr)[k]? = some (j, x)) ∨ (j = z ∧ k < m) := by
        intro h2 ha
        obtain ⟨_, hm⟩ := T.hp j s hs
        have hm := hm h2 ha
        generalize (acts 0 (tr.take j)).length = mj at hm
        have hnot : ¬ mj < k := fun hlt => by
          have := (I.kth mj j h2 hm).2 hlt
          rw [hnl] at this; cases this
        rcases Nat.lt_or_ge k mj with hlt2 | hge
        · by_cases hjz : j = z
          · subst hjz
            have := same hm Z.ix
            exact .inr ⟨rfl, by omega⟩
          · exfalso
            have hml : mj < (acts 0 tr).length := (List.getElem?_eq_some_iff.1 hm).1
            obtain ⟨⟨i, x⟩, hix⟩ : ∃ p, (acts 0 tr)[k]? = some p := ⟨_, List.getElem?_eq_getElem (by omega)⟩
            have hb := Z.pairs k mj (i, x) (j, h2) hlt2 hix hm hjz
            have := (I.kth k i x hix).1 (bef_listed S I.down (j + 1) j (by omega) s.o hol hre i hb)
            omega
        · have : mj = k := by omega
          subst this
          exact .inl ⟨h2, hm⟩
      by_cases hnow : ∀ h2, s.act = some h2 → ∃ x, (acts 0 tr)[k]? = some (j, x)
      · refine exec_one (hcall _ _) hok S T hst I hs hre hnl (fun t _ => rfl) hnow fun ψ' v' w' k' hle' hv hk H' => ?_
        exact ih _ k' ψ' _ w' (.inl (I.step S T hs hre hnl hle' hv hk H')) (by omega) (Map.le_trans hle hle') ((hdef _ _ _).trans hd)
      · -- it comes early
        obtain ⟨h2, ha, hno⟩ : ∃ h2, s.act = some h2 ∧ ¬ ∃ x, (acts 0 tr)[k]? = some (j, x) := by
          rcases hc : s.act with _ | h2
          · exact absurd (fun h2 e => by rw [hc] at e; cases e) hnow
          · refine ⟨h2, rfl, fun hx => hnow fun _ _ => hx⟩
        obtain ⟨hjz, hkm⟩ := (hidx h2 ha).resolve_left hno
        subst hjz
        obtain rfl : s = sz := Option.some.inj (hs.symm.trans Z.at_)
        obtain ⟨hwt, hact2⟩ := hspec.turn h2 ha
        obtain ⟨hsh, hmm⟩ := T.hp j s hs
        have hmm := hmm h2 ha
        generalize (acts 0 (tr.take j)).length = mj at hsh hmm
        obtain rfl := same hmm Z.ix
        have hreads := I.reads S T hs hre hnl
        have hops := opersOk_spec hok s.o (List.mem_of_getElem? hol)
        have hrev : Rev ψ s.F a.eval s.o.op.operands.toList := rev_of hops I.glob fun t ht => hreads t (List.mem_append_left _ ht)
        have hwant := guard_ok' (ops := ops) (o := s.o) (a := a) (fun g want og d h1 h2 h3 => hreads d (by
          unfold readsOf
          refine List.mem_append_right _ ?_
          rw [h1]
          simp only [h2, h3, List.mem_singleton])) hspec.guard
        have hA : opA P s.F s.h s.o.op = some (s.v, h2) := by
          have := hact2
          unfold actV at this
          rcases Z.new with ⟨t, e⟩ | ⟨t, len, parts, e⟩
          · rw [e] at this ⊢; exact this
          · rw [e] at this ⊢; exact this
        obtain ⟨i, cells, cells', e, f, hn, hl, hvv, hrun⟩ := new_run (P := P) Z.new hrev hA
        unfold wpOp
        rw [ho]
        simp only
        rw [hwant, hwt, if_pos rfl]
        refine .inl ?_
        unfold Oper.wp
        rw [hrun, Oper.upon_value, Z.dst]
        refine ih _ k ψ _ _ (.inr ⟨_, _, listed, a, f w.heap.size, rfl, hnl, rfl, ⟨I.size, I.down, I.kle, I.kth, I.heap.skip _, I.glob, I.n, I.vals, I.rest⟩, hkm, hre, fun ψ' W hle' H' => ?_⟩) (by omega) hle ((hdef _ _ _).trans hd)
        rw [hsh] at hn
        obtain ⟨ψ'', l1, l2, l3⟩ := H'.adopt I.heap.base (I.heap.below.alloc I.heap.inn _) (fun _ h => .inl h) (fun _ h => h) (b := w.heap.size) (.inr rfl) I.heap.newZ (fun k => by rw [cell_new]; simp) (fun k => World.frozen?_alloc_new _ _ _ _) hn (hl.mono hle')
        refine ⟨ψ'', l1, hvv _ _ l2, ?_⟩
        rw [hAt_succ _ _ _ _ hmm]
        exact l3
    · -- it is pending
      have hzs : z < l0.size := by
        rcases Nat.lt_or_ge z l0.size with hx | hx
        · exact hx
        · rw [Array.getElem?_eq_none hx] at hzl; cases hzl
      have hjz : j ≠ z := by
        rintro rfl
        have : (l0.setIfInBounds j true)[j]? = some true := (lst_set hzs j).2 (.inl rfl)
        rw [hnl] at this; cases this
      have hnl0 : l0[j]? = some false := by rwa [Array.getElem?_setIfInBounds_ne (Ne.symm hjz)] at hnl
      have down : ∀ (i : Nat) (oi : Oper), ops.toList[i]? = some oi → (l0.setIfInBounds z true)[i]? = some true → ∀ e, e ∈ oi.after.toList → Region.binds .any e = true → (l0.setIfInBounds z true)[e.on]? = some true := by
        intro i oi hi hl e he hb
        rw [lst_set hzs] at hl ⊢
        rcases hl with rfl | hl
        · rw [hoz] at hi; cases hi
          exact .inr (hrz e he hb)
        · exact .inr (I.down i oi hi hl e he hb)
      obtain ⟨ik, yk, hik, hikz⟩ := actIn hkm
      have nodep : ¬ (bef (masks ops.toList []) z j = true ∨ ∃ e, e ∈ s.o.after.toList ∧ e.on = z) := by
        intro hd
        have hb := Z.deps j s.o hol hd k (ik, yk) hkm hik
        have := bef_listed S down (j + 1) j (by omega) s.o hol hre ik hb
        rw [lst_set hzs] at this
        have := (I.kth k ik yk hik).1 (this.resolve_left hikz)
        omega
      have hre0 : ∀ e, e ∈ s.o.after.toList → Region.binds .any e = true → l0[e.on]? = some true := by
        intro e he hb
        have := hre e he hb
        rw [lst_set hzs] at this
        exact this.resolve_left fun h => nodep (.inr ⟨e, he, h⟩)
      have hdz : dz ∉ readsOf ops.toList s.o := by
        intro hm
        obtain ⟨h1, h2⟩ := (S.pair z j sz.o s.o hoz hol (Ne.symm hjz) dz Z.dst).2 hm
        rcases Nat.lt_or_ge z j with hlt2 | hge
        · exact nodep (.inl (h1 hlt2))
        · have hb := h2 (by omega)
          have := bef_listed S I.down (z + 1) z (by omega) sz.o hoz hrz j hb
          rw [hnl0] at this; cases this
      have hdj : s.o.dst ≠ some dz := (S.pair z j sz.o s.o hoz hol (Ne.symm hjz) dz Z.dst).1
      have hroom : ∀ x : Nat, (some dz : Option Tmp) = some x → x < b0.tmps.size := fun x hx => by
        have := hzspec.room x (by rw [Z.dst]; exact hx)
        rw [hzn] at this; rw [I.n]; exact this
      have hea : ∀ t, t ∈ readsOf ops.toList s.o → (b0.put (some dz) vz).eval (.tmp t) = b0.eval (.tmp t) := by
        intro t ht
        rw [eval_put hroom, if_neg (fun e => hdz (by cases e; exact ht))]
      have hact : ∀ h2, s.act = some h2 → ∃ x, (acts 0 tr)[k]? = some (j, x) := by
        intro h2 ha
        obtain ⟨_, hm⟩ := T.hp j s hs
        have hm := hm h2 ha
        generalize (acts 0 (tr.take j)).length = mj at hm
        have hnot : ¬ mj < k := fun hlt => by
          have := (I.kth mj j h2 hm).2 hlt
          rw [hnl0] at this; cases this
        rcases Nat.lt_or_ge k mj with hlt2 | hge
        · exfalso
          have hb := Z.pairs k mj (ik, yk) (j, h2) hlt2 hik hm hjz
          have := (I.kth k ik yk hik).1 (bef_listed S I.down (j + 1) j (by omega) s.o hol hre0 ik hb)
          omega
        · have : mj = k := by omega
          subst this
          exact ⟨h2, hm⟩
      refine exec_one (hcall _ _) hok S T hst I hs hre0 hnl0 hea hact fun ψ' v' w' k' hle' hv hk H' => ?_
      have I' := I.step S T hs hre0 hnl0 hle' hv hk H'
      have hk' : k' ≤ m := by rcases hk with ⟨_, rfl⟩ | ⟨_, _, rfl⟩ <;> omega
      have hjs : j < l0.size := by
        rcases Nat.lt_or_ge j l0.size with hx | hx
        · exact hx
        · rw [Array.getElem?_eq_none hx] at hnl0; cases hnl0
      have hrz' : ∀ e, e ∈ sz.o.after.toList → Region.binds .any e = true → (l0.setIfInBounds j true)[e.on]? = some true := fun e he hb => (lst_set hjs _).2 (.inr (hrz e he hb))
      have hzl' : (l0.setIfInBounds j true)[z]? = some false := by rw [Array.getElem?_setIfInBounds_ne hjz]; exact hzl
      have hput : (b0.put (some dz) vz).put s.o.dst v' = (b0.put s.o.dst v').put (some dz) vz := put_comm hdj
      have hls : (l0.setIfInBounds z true).setIfInBounds j true = (l0.setIfInBounds j true).setIfInBounds z true := Array.setIfInBounds_comm _ _ (Ne.symm hjz)
      have hfu : unl ((l0.setIfInBounds z true).setIfInBounds j true) ≤ fuel := by omega
      have hdd : ((b0.put (some dz) vz).put s.o.dst v').defers = a0.defers := (hdef _ _ _).trans hd
      rw [hput] at hdd ⊢
      rw [hls] at hfu ⊢
      rcases Nat.lt_or_ge k' m with hlt2 | hge
      · exact ih _ k' ψ' _ w' (.inr ⟨B1, w1, _, _, vz, rfl, hzl', rfl, I', hlt2, hrz', fun ψ2 W l H2 => had ψ2 W (Map.le_trans hle' l) H2⟩) hfu (Map.le_trans hle hle') hdd
      · have hkm' : k' = m := by omega
        rw [hkm'] at I' H'
        obtain ⟨ψ'', l1, l2, l3⟩ := had ψ' w' hle' H'
        have I2 := I'.step S T Z.at_ hrz' hzl' l1 l2 (.inr ⟨xz, Z.ix, rfl⟩) l3
        rw [Z.dst] at I2
        exact ih _ (m + 1) ψ'' _ w' (.inl I2) hfu (Map.le_trans hle (Map.le_trans hle' l1)) hdd

theorem drawn_ok (call : FuncId → List Value → AW → Option (Value × AW)) (hcall : ∀ B0 w0, CallOk P B0 w0 call) (B0 : Zn) (w0 : World) : DrawnOk P B0 w0 call := by
  intro ops F F' h h' hr hok hmix φ a w hF H hG id Q hQ
  unfold runDrawn at hr
  split at hr
  · cases hr
  · rename_i hs
    split at hr
    · rename_i tr F1 h1 ht
      split at hr
      · rename_i hc
        simp only [Option.some.injEq, Prod.mk.injEq] at hr
        obtain ⟨rfl, rfl⟩ := hr
        rw [Bool.and_eq_true] at hc
        have hnone : ∀ i, (Array.replicate ops.size false)[i]? ≠ some true := fun i e => by
          rw [Array.getElem?_replicate] at e
          split at e <;> cases e
        have I0 : Inv P B0 w0 ops tr h F φ (Array.replicate ops.size false) 0 a w.drew := by
          refine ⟨by simp, fun j oj _ hl => absurd hl (hnone j), Nat.zero_le _, fun m i x _ => ⟨fun hl => absurd hl (hnone i), fun hl => by omega⟩, ?_, hG, hF.1, fun j s _ hl => absurd hl (hnone j), fun t _ => hF.2 t⟩
          rw [hAt_zero]; exact H.drew
        have hu : unl (Array.replicate ops.size false) ≤ ops.size := by
          unfold unl
          rw [Array.toList_replicate, List.countP_replicate]
          simp
        have hord := hc.1
        unfold orderedOk at hord
        rw [Bool.or_eq_true] at hord
        rcases hord with h1 | h1
        · exact wp_region_any hmix (drawn_any (hcall B0 w0) hok (static_of hs) (trace_of ht) h1 hc.2 hQ ops.size (Array.replicate ops.size false) 0 φ a _ I0 hu φ.le_refl rfl)
        · obtain ⟨z, m, sz, dz, x, Z⟩ := free_of (trace_of ht) (fun _ h => h) h1
          exact wp_region_any hmix (drawn_free hcall hok (static_of hs) (trace_of ht) Z hc.2 hQ ops.size (Array.replicate ops.size false) 0 φ a _ (.inl I0) hu φ.le_refl rfl)
      · cases hr
    · cases hr

theorem calls_ok (n : Nat) : CallOk P B0 w0 (callF P n) := callF_ok (fun _ h => drawn_ok _ h) n B0 w0

end Go.Abs
end

section
/- What a run of a function without parameters gives its row. -/
open Go.RowKit
namespace Go.Abs
open Go.ChangeShapes

/-- Every package variable of the program where the program lays it; behind them nothing. -/
def globMap (n : Nat) : Map := fun i => if i < n then some (i, 0, 0) else none

theorem glob_rel {n : Nat} {W : World} (hn : n ≤ W.heap.size) : HRel (Zn.lt W.heap.size) W (globMap n) ⟨n, .nil, .nil⟩ W := by
  refine ⟨fun _ h => h, BelowZ.refl _ _, ?_, ?_, ?_, ?_, ?_⟩
  · intro i x hx
    unfold globMap at hx
    split at hx
    · rename_i hi
      exact hi
    · cases hx
  · intro i o x ho; simp [T.get?] at ho
  · intro i o ho; simp [T.get?] at ho
  · intro i f g lo hi sz cs ho; simp [T.get?] at ho
  · intro i j oi oj b σ κ σ' κ' _ ho; simp [T.get?] at ho

def saysTrue : Option (Value × AW) → Bool
  | some (.bool true, _) => true
  | _ => false

theorem closed_calls {P : Program} {n N : Nat} {f : FuncId} (hN : P.globals.size = N) (h : saysTrue (callF P n f [] ⟨N, .nil, .nil⟩) = true) {W : World} (hW : P.globals.size ≤ W.heap.size) :
    Calls P f #[] W fun e W' => e = .returned (.bool true) ∧ Below W.heap.size W W' := by
  unfold saysTrue at h
  split at h
  · rename_i h' hc
    subst hN
    obtain ⟨_, hcalls⟩ := calls_ok (B0 := Zn.lt W.heap.size) (w0 := W) n f [] _ _ _ hc
    refine (hcalls (globMap P.globals.size) W [] L2.nil (glob_rel hW) (fun g hg => by simp [globMap, hg])).mono fun e W' he => ?_
    obtain ⟨ψ, v', _, rfl, hv, H⟩ := he
    rw [hv.bool_inv]
    exact ⟨rfl, H.below.below⟩
  · cases h

section
variable {H : Type} {enc : TypeId × Value → H} {P : Program}

/-- The row's word behind a call without arguments that answers true and leaves alone what it found. -/
theorem post_closed {f : Func} {s : ChangeSpec} {apart fresh handsOn again : Bool} {W W' : World} {t : TypeId} {ds gs : List (DataW H)} {before : List MemPlace} (hp : f.params = #[]) (hr : f.resultTypes = #[t]) (ht : P.underlying t = some .bool) (hv : s.vars = [])
    (hs : ∀ (K : Type), (s.fn K []).results = [.lit (.bool true)] ∧ (s.fn K []).args = [] ∧ (s.fn K []).vars = []) (hW : DataW.Whole enc P f.params.toList s.vars apart W [] ds gs before) (hB : Below W.heap.size W W') :
    s.post enc P f apart fresh handsOn again W #[] (.bool true) W' := by
  have hW' := hW
  obtain ⟨p, q, hA, hV, rfl, hfz, hnd⟩ := hW
  rw [hp] at hA
  obtain ⟨_, rfl, rfl⟩ := trodAll_nil hA
  rw [hv] at hV
  obtain ⟨rfl, rfl⟩ := trodVars_none hV
  obtain ⟨h1, h2, h3⟩ := hs H
  have hres : ∀ (b : Nat) (sp : Nat → Bool) (hd : Bool), DataW.TrodAll enc P W' b sp hd f.resultTypes.toList ((Value.bool true).resultList f.resultTypes.size) [.lit (.bool true)] [] := by
    intro b sp hd
    rw [hr]
    exact trodAll_mk1 (shut_bool ht _)
  refine ⟨[], [], _, [], [], [], hW', by rw [List.append_nil, h1]; exact hres _ _ _, by rw [List.append_nil, h2, hp]; exact trodAll_mk0, by rw [List.append_nil, h3, hv]; exact rfl, hB.frame _, fun _ => ⟨?_, [.lit (.bool true)], [], [], ⟨[], [], ?_, by rw [hv]; exact rfl, rfl, fun b off hb => (by cases hb), fun _ => ?_⟩, fun p hp' => (by cases hp')⟩⟩
  · rw [hr]; exact ok_one (f := f) hr rfl (okWide_bool_mk ht _) |> fun hh => by rw [hr] at hh; exact hh
  · rw [hp, List.append_nil, List.append_nil]; exact hres _ _ _
  · simp
end

/-- A call that started no goroutine has left nobody behind. -/
theorem leaving_of_handed {a : Assume} {C : Checked} {os : Os} {f : FuncId} {r : Reach} {Pre : World → Array Value → Prop} {Post : World → Array Value → Value → World → Prop} (h : ReturnsInHanded a C os f r Pre Post) : ReturnsInLeavingWide a C os f r Pre Post := fun enter =>
  ReturnsInOpen.mono (fun last _ t hx => by
    obtain ⟨⟨h1, h2⟩, h3, h4⟩ := hx
    refine ⟨h3, ⟨fun g hg => ⟨0, ?_⟩, h2⟩, h4⟩
    have := List.all_eq_true.1 h1 g hg
    exact (by simpa using this : g.status = .finished)) (fun _ x => x) (h enter)

/-- The row of a function without parameters, out of its run. -/
theorem handed_closed {H : Type} {enc : TypeId × Value → H} {a : Assume} {C : Checked} {os : Os} {f : FuncId} {fn : Func} {s : ChangeSpec} {conds : List PathCond} {apart fresh handsOn again : Bool} {t : TypeId} {n N : Nat}
    (own : ownKnob C.prog.godebug = none) (started : os.Started) (noInit : C.prog.inits.idxOf? f = none) (hfn : C.prog.funcs[f]? = some fn)
    (witness : ∃ (w : World) (tape : Tape) (i : Input), w.os = os ∧ (w.forCall tape i).Shaped C.prog ∧ i.vars = [] ∧ Input.okWide C.prog (w.forCall tape i) .any w.heap.size f i ∧
      s.pre6 enc C.prog fn conds apart (w.forCall tape i).memory i.args ∧ a.holds C.prog (lone (Frame.enter C.prog f i.args .normal) [] (w.forCall tape i)))
    (hp : fn.params = #[]) (hr : fn.resultTypes = #[t]) (ht : C.prog.underlying t = some .bool) (hv : s.vars = [])
    (hs : ∀ (K : Type), (s.fn K []).results = [.lit (.bool true)] ∧ (s.fn K []).args = [] ∧ (s.fn K []).vars = [])
    (hN : C.prog.globals.size = N) (hlow : Nat.ble (C.prog.globals.size + 1) (begin C.prog (fun _ _ => 0) default).world.heap.size = true) (h : saysTrue (callF C.prog n f [] ⟨N, .nil, .nil⟩) = true) :
    ReturnsInHanded a C os f .any (s.pre6 enc C.prog fn conds apart) (s.post enc C.prog fn apart fresh handsOn again) := by
  refine returnsInHanded_of_calls own started noInit witness ?_
  intro w tape i _ hsh _ hok hpre _
  obtain ⟨⟨ds, gs, before, hw, hc⟩, _⟩ := hpre
  have hargs : i.args = #[] := by
    obtain ⟨p, q, hA, _⟩ := hw
    rw [hp] at hA
    exact (trodAll_none hA).1
  rw [hargs] at hw ⊢
  have hw' : DataW.Whole enc C.prog fn.params.toList s.vars apart (w.forCall tape i) (#[] : Array Value).toList ds gs before := DataW.Whole.of_heap (w' := w.forCall tape i) (by rfl) hw
  have hsz : C.prog.globals.size ≤ (w.forCall tape i).heap.size := by
    obtain ⟨o, _, ho, _⟩ := hsh.2 C.prog.globals.size (Nat.le_refl _) (Nat.le_of_ble_eq_true hlow)
    rcases Nat.lt_or_ge (w.forCall tape i).heap.size C.prog.globals.size with hx | hx
    · rw [Array.getElem?_eq_none (Nat.le_of_lt hx)] at ho; cases ho
    · exact hx
  refine (closed_calls hN h hsz).mono fun e W' he => ?_
  obtain ⟨rfl, hB⟩ := he
  exact ChangeSpec.post_blind (post_closed hp hr ht hv hs hw' hB)

end Go.Abs
end

section
/- Package variables that are tables of integers: laid into the deterministic heap as they stand. -/
open Go.RowKit
namespace Go.Abs
open Go.ChangeShapes

structure Tab where
  g : Nat
  k : IntKind
  zs : List Int

def Tab.obj (t : Tab) : AObj := .var (T.ofList (t.zs.map fun z => Value.int t.k z)) t.zs.length true

def tabObjs : List Tab → T AObj
  | [] => .nil
  | t :: l => (tabObjs l).set t.g t.obj

theorem tabObjs_get : ∀ {l : List Tab} {i : Nat} {o : AObj}, (tabObjs l).get? i = some o → ∃ t, t ∈ l ∧ t.g = i ∧ o = t.obj
  | [], i, o, h => by simp [tabObjs, T.get?] at h
  | t :: l, i, o, h => by
    simp only [tabObjs] at h
    rw [T.get?_set] at h
    split at h
    · rename_i e
      simp only [Option.some.injEq] at h
      exact ⟨t, by simp, e.symm, h.symm⟩
    · obtain ⟨t', a, b, c⟩ := tabObjs_get h
      exact ⟨t', by simp [a], b, c⟩

def TabStands (W : World) (t : Tab) : Prop := ∀ i, i < t.zs.length → W.cell? ⟨t.g, i, none⟩ = some (.int t.k (t.zs.getD i 0))

theorem tab_rel {n : Nat} {tabs : List Tab} {W : World} (hn : n ≤ W.heap.size) (hg : ∀ t, t ∈ tabs → t.g < n) (ht : ∀ t, t ∈ tabs → TabStands W t) : HRel (Zn.lt W.heap.size) W (globMap n) ⟨n, tabObjs tabs, .nil⟩ W := by
  refine ⟨fun _ h => h, BelowZ.refl _ _, ?_, ?_, ?_, ?_, ?_⟩
  · intro i x hx
    unfold globMap at hx
    split at hx
    · rename_i hi
      exact hi
    · cases hx
  · intro i o x ho hx
    obtain ⟨t, hm, rfl, rfl⟩ := tabObjs_get ho
    simp only [globMap, hg t hm, if_true, Option.some.injEq] at hx
    subst hx
    exact Nat.lt_of_lt_of_le (hg t hm) hn
  · intro i o ho
    obtain ⟨t, hm, rfl, rfl⟩ := tabObjs_get ho
    have hlt := hg t hm
    refine ⟨t.g, 0, 0, by simp [globMap, hlt], rfl, rfl, fun off v hoff hv => ?_, fun e => (by cases e), fun _ => .inl (show t.g < W.heap.size by omega)⟩
    rw [T.get?_ofList, List.getElem?_map] at hv
    rw [List.getElem?_eq_getElem hoff] at hv
    simp only [Option.map_some, Option.some.injEq] at hv
    subst hv
    refine ⟨_, ht t hm off hoff, ?_⟩
    rw [List.getD_eq_getElem?_getD, List.getElem?_eq_getElem hoff]
    exact VRel.int _ _
  · intro i f g lo hi sz cs ho
    obtain ⟨t, hm, rfl, e⟩ := tabObjs_get ho
    cases e
  · intro i j oi oj b σ κ σ' κ' _ hi _ li
    obtain ⟨t, hm, rfl, rfl⟩ := tabObjs_get hi
    cases li

theorem closed_calls_tab {P : Program} {n N : Nat} {tabs : List Tab} {f : FuncId} (hN : P.globals.size = N) (h : saysTrue (callF P n f [] ⟨N, tabObjs tabs, .nil⟩) = true) {W : World} (hW : P.globals.size ≤ W.heap.size)
    (hg : ∀ t, t ∈ tabs → t.g < N) (ht : ∀ t, t ∈ tabs → TabStands W t) :
    Calls P f #[] W fun e W' => e = .returned (.bool true) ∧ Below W.heap.size W W' := by
  unfold saysTrue at h
  split at h
  · rename_i h' hc
    subst hN
    obtain ⟨_, hcalls⟩ := calls_ok (B0 := Zn.lt W.heap.size) (w0 := W) n f [] _ _ _ hc
    refine (hcalls (globMap P.globals.size) W [] L2.nil (tab_rel hW hg ht) (fun g hg => by simp [globMap, hg])).mono fun e W' he => ?_
    obtain ⟨ψ, v', _, rfl, hv, H⟩ := he
    rw [hv.bool_inv]
    exact ⟨rfl, H.below.below⟩
  · cases h

theorem shaped_size {P : Program} {W : World} (hlow : Nat.ble (P.globals.size + 1) (begin P (fun _ _ => 0) default).world.heap.size = true) (hsh : W.ShapedOpen P) : P.globals.size ≤ W.heap.size := by
  obtain ⟨o, _, ho, _⟩ := hsh.2 P.globals.size (Nat.le_refl _) (Nat.le_of_ble_eq_true hlow)
  rcases Nat.lt_or_ge W.heap.size P.globals.size with hx | hx
  · rw [Array.getElem?_eq_none (Nat.le_of_lt hx)] at ho; cases ho
  · exact hx

theorem stands_of {P : Program} {W : World} {name : String} {t : Tab} (h : Lib.TabIs P W name t.k t.zs) (hg : P.globalNamed name = some t.g) : TabStands W t := fun i hi => h.cell hg i hi

end Go.Abs
end

section
/- What a function's arguments are in the deterministic heap: all that stood when the call began may be read. -/
open Go.RowKit
namespace Go.Abs
open Go.ChangeShapes

/-- A value as the deterministic heap sees it: an empty slice without room lies nowhere. -/
def norm (S : Nat) : Value → Value
  | .slice (some _) 0 0 => .slice (some ⟨S, 0, none⟩) 0 0
  | v => v
def argMap (S : Nat) : Map := fun i => if i < S then some (i, 0, 0) else if i = S then some (0, 0, 0) else none
def T.ofFn {α : Type} (g : Nat → Option α) : Nat → T α
  | 0 => .nil
  | n + 1 => match g n with
    | some a => (T.ofFn g n).set n a
    | none => T.ofFn g n
theorem T.get?_ofFn {α : Type} (g : Nat → Option α) : ∀ (n m : Nat), (T.ofFn g n).get? m = if m < n then g m else none
  | 0, m => by simp [T.ofFn, T.get?]
  | n + 1, m => by
    have ih := T.get?_ofFn g n m
    unfold T.ofFn
    split
    · rename_i a ha
      rw [T.get?_set]
      by_cases e : m = n
      · subst e; rw [if_pos rfl, if_pos (by omega), ha]
      · rw [if_neg e, ih]
        by_cases hl : m < n
        · rw [if_pos hl, if_pos (by omega)]
        · rw [if_neg hl, if_neg (by omega)]
    · rename_i ha
      rw [ih]
      by_cases e : m = n
      · subst e; rw [if_neg (by omega), if_pos (by omega), ha]
      · by_cases hl : m < n
        · rw [if_pos hl, if_pos (by omega)]
        · rw [if_neg hl, if_neg (by omega)]
open Classical in
noncomputable def seen (W : World) (b off : Nat) : Option Value :=
  match W.cell? ⟨b, off, none⟩ with
  | some v => if VRel (argMap W.heap.size) (norm W.heap.size v) v then some (norm W.heap.size v) else none
  | none => none
def cellsIn (W : World) (b : Nat) : Nat := match W.heap[b]? with
  | some (.cells c _ _) => c.size
  | _ => 0
noncomputable def mir (W : World) : AW :=
  ⟨W.heap.size + 1, T.ofFn (fun b => some (.var (T.ofFn (seen W b) (cellsIn W b)) (cellsIn W b) true)) W.heap.size, .nil⟩
theorem seen_some {W : World} {b off : Nat} {v : Value} (h : seen W b off = some v) : ∃ v', W.cell? ⟨b, off, none⟩ = some v' ∧ VRel (argMap W.heap.size) v v' := by
  unfold seen at h
  split at h
  · rename_i v' hc
    split at h
    · rename_i hr; cases h; exact ⟨v', hc, hr⟩
    · cases h
  · cases h
theorem mir_obj {W : World} {i : Nat} {o : AObj} (h : (mir W).objs.get? i = some o) : i < W.heap.size ∧ o = .var (T.ofFn (seen W i) (cellsIn W i)) (cellsIn W i) true := by
  unfold mir at h
  simp only at h
  rw [T.get?_ofFn] at h
  split at h
  · rename_i hi; exact ⟨hi, (Option.some.inj h).symm⟩
  · cases h
theorem argMap_lt {S i : Nat} (h : i < S) : argMap S i = some (i, 0, 0) := by simp [argMap, h]
theorem argMap_S {S : Nat} : argMap S S = some (0, 0, 0) := by simp [argMap]
theorem mir_rel (W : World) : HRel (Zn.lt W.heap.size) W (argMap W.heap.size) (mir W) W := by
  refine ⟨fun _ h => h, BelowZ.refl _ _, fun i x hx => ?_, fun i o x ho hx => ?_, fun i o ho => ?_, fun i f g lo hi sz cs ho => ?_, fun i j oi oj b σ κ σ' κ' _ hi _ li => ?_⟩
  · show i < W.heap.size + 1
    unfold argMap at hx
    split at hx
    · omega
    · split at hx
      · omega
      · cases hx
  · obtain ⟨hi, _⟩ := mir_obj ho
    rw [argMap_lt hi] at hx; cases hx; exact hi
  · obtain ⟨hi, rfl⟩ := mir_obj ho
    refine ⟨i, 0, 0, argMap_lt hi, rfl, rfl, fun off v hoff hv => ?_, fun e => (by cases e), fun _ => .inl hi⟩
    rw [T.get?_ofFn, if_pos hoff] at hv
    exact seen_some hv
  · obtain ⟨_, e⟩ := mir_obj ho; cases e
  · obtain ⟨_, rfl⟩ := mir_obj hi; cases li
theorem mir_rd {W : World} {b off : Nat} {v : Value} (hc : W.cell? ⟨b, off, none⟩ = some v) (hv : VRel (argMap W.heap.size) (norm W.heap.size v) v) : (mir W).rd b off = some (norm W.heap.size v) := by
  have hb : ∃ c t fr, W.heap[b]? = some (.cells c t fr) ∧ c[off]? = some v := by
    unfold World.cell? at hc
    split at hc
    · rename_i c t fr hh
      exact ⟨c, t, fr, hh, by simpa using hc⟩
    · cases hc
  obtain ⟨c, t, fr, hh, hco⟩ := hb
  have hlt : b < W.heap.size := (Array.getElem?_eq_some_iff.1 hh).1
  have hoff : off < cellsIn W b := by unfold cellsIn; rw [hh]; exact (Array.getElem?_eq_some_iff.1 hco).1
  unfold AW.rd mir
  simp only
  rw [T.get?_ofFn, if_pos hlt]
  simp only
  rw [Nat.ble_eq_true_of_le hoff]
  simp only
  rw [T.get?_ofFn, if_pos hoff]
  unfold seen
  rw [hc]
  simp only
  rw [if_pos hv]

section
variable {H : Type} {enc : TypeId × Value → H} {P : Program} {W : World}

/-- Names of all that may be read at the start: one name. -/
def argStore (l : List (Option Addr × List Value)) : Store := fun c => if c = 0 then some (.ro l) else none
theorem arg_own {l : List (Option Addr × List Value)} (hl : ∀ a vs, (a, vs) ∈ l → (a = none ∧ vs = []) ∨ ∃ i off, a = some ⟨i, off, none⟩ ∧ i < W.heap.size + 1 ∧ ∀ j, j < vs.length → (mir W).rd i (off + j) = vs[j]?) : Own (mir W) (fun _ => 0) (argStore l) := by
  refine ⟨⟨1, fun c hc => by unfold argStore; rw [if_neg (by omega)]⟩, fun c r hc => ?_⟩
  unfold argStore at hc
  split at hc
  · rename_i e; subst e
    cases hc
    intro a vs hm
    rcases hl a vs hm with x | ⟨i, off, e, hi, hr⟩
    · exact .inl x
    · refine .inr ⟨i, off, e, hi, rfl, fun f g lo hi z t ho => ?_, hr⟩
      obtain ⟨_, e⟩ := mir_obj ho; cases e
  · cases hc

/-- A law whose arguments read behind the call as they read before. -/
theorem post_args {f : Func} {s : ChangeSpec} {apart handsOn : Bool} {args : Array Value} {t : TypeId} {ds gs : List (DataW H)} {before : List MemPlace} {W' : World} (hlaid : laidOutB P = true)
    (hparams : ∀ t', t' ∈ f.params.toList → P.readableRec t' = true ∧ t' < P.types.size) (hr : f.resultTypes = #[t]) (ht : P.underlying t = some .bool) (hv : s.vars = [])
    (hs : ∀ (K : Type) (ds : List (DataW K)), ds.length = f.params.size → (s.fn K ds).results = [.lit (.bool true)] ∧ (s.fn K ds).args = ds ∧ (s.fn K ds).vars = []) (hW : DataW.Whole enc P f.params.toList s.vars apart W args.toList ds gs before) (hB : Below W.heap.size W W') :
    s.post enc P f apart true handsOn false W args (.bool true) W' := by
  have hW' := hW
  have hlt := hW.lt
  obtain ⟨p, q, hA, hV, rfl, hfz, hnd⟩ := hW
  rw [hv] at hV
  obtain ⟨rfl, rfl⟩ := trodVars_none hV
  have hlen : ∀ {ts : List TypeId} {vs : List Value} {ds : List (DataW H)} {ps : List MemPlace}, DataW.TrodAll enc P W 0 (fun _ => true) true ts vs ds ps → ds.length = ts.length := by
    intro ts
    induction ts with
    | nil => intro vs ds ps h; obtain ⟨_, rfl, _⟩ := trodAll_nil h; rfl
    | cons t ts ih => intro vs ds ps h; obtain ⟨v, vs1, d, ds1, a, b, rfl, rfl, rfl, _, h2⟩ := trodAll_cons h; simp [ih h2]
  obtain ⟨h1, h2, h3⟩ := hs H ds (by rw [hlen hA]; simp)
  have stays : ∀ {ts : List TypeId} {vs : List Value} {ds : List (DataW H)} {ps : List MemPlace}, (∀ t', t' ∈ ts → P.readableRec t' = true ∧ t' < P.types.size) → (∀ x ∈ ps, x.block < W.heap.size) → DataW.TrodAll enc P W 0 (fun _ => true) true ts vs ds ps → DataW.TrodAll enc P W' 0 (fun b => decide (b < W.heap.size)) true ts vs ds ps := by
    intro ts
    induction ts with
    | nil => intro vs ds ps _ _ h; obtain ⟨rfl, rfl, rfl⟩ := trodAll_nil h; exact rfl
    | cons t ts ih =>
      intro vs ds ps hp hb h
      obtain ⟨v, vs1, d, ds1, a, b, rfl, rfl, rfl, ha, hb2⟩ := trodAll_cons h
      refine ⟨a, b, Below.trod hlaid (hp t (by simp)).1 (hp t (by simp)).2 ha hB (fun x hx => hb x (List.mem_append_left _ hx)), ih (fun t' h' => hp t' (by simp [h'])) (fun x hx => hb x (List.mem_append_right _ hx)) hb2, rfl⟩
  have hres : ∀ (b : Nat) (sp : Nat → Bool) (hd : Bool), DataW.TrodAll enc P W' b sp hd f.resultTypes.toList ((Value.bool true).resultList f.resultTypes.size) [.lit (.bool true)] [] := by
    intro b sp hd
    rw [hr]
    exact trodAll_mk1 (shut_bool ht _)
  refine ⟨ds, [], _, [], p, [], hW', by rw [List.append_nil, h1]; exact hres _ _ _, by rw [List.append_nil, h2]; exact stays hparams (fun x hx => hlt x (by simp [hx])) hA, by rw [List.append_nil, h3, hv]; exact rfl, hB.frame _, fun e => (by cases e)⟩
end

/-- The row of a function, out of what it comes to. -/
theorem handed_args {H : Type} {enc : TypeId × Value → H} {a : Assume} {C : Checked} {os : Os} {f : FuncId} {fn : Func} {s : ChangeSpec} {conds : List PathCond} {apart handsOn : Bool} {t : TypeId}
    (own : ownKnob C.prog.godebug = none) (started : os.Started) (noInit : C.prog.inits.idxOf? f = none) (hfn : C.prog.funcs[f]? = some fn)
    (witness : ∃ (w : World) (tape : Tape) (i : Input), w.os = os ∧ (w.forCall tape i).Shaped C.prog ∧ i.vars = [] ∧ Input.okWide C.prog (w.forCall tape i) .any w.heap.size f i ∧
      s.pre6 enc C.prog fn conds apart (w.forCall tape i).memory i.args ∧ a.holds C.prog (lone (Frame.enter C.prog f i.args .normal) [] (w.forCall tape i)))
    (hlaid : laidOutB C.prog = true) (hparams : ∀ t', t' ∈ fn.params.toList → C.prog.readableRec t' = true ∧ t' < C.prog.types.size)
    (hr : fn.resultTypes = #[t]) (ht : C.prog.underlying t = some .bool) (hv : s.vars = [])
    (hs : ∀ (K : Type) (ds : List (DataW K)), ds.length = fn.params.size → (s.fn K ds).results = [.lit (.bool true)] ∧ (s.fn K ds).args = ds ∧ (s.fn K ds).vars = [])
    (hlow : Nat.ble (C.prog.globals.size + 1) (begin C.prog (fun _ _ => 0) default).world.heap.size = true)
    (run : ∀ (W : World) (base : Nat) (args : Array Value) (ds : List (DataW H)) (p : List MemPlace), (∀ (j : Nat) t v, fn.params[j]? = some t → args[j]? = some v → Value.okWide C.prog W .any base t v) → W.ShapedOpen C.prog → C.prog.globals.size ≤ W.heap.size → DataW.TrodAll enc C.prog W 0 (fun _ => true) true fn.params.toList args.toList ds p →
      LRel (argMap W.heap.size) (args.toList.map (norm W.heap.size)) args.toList ∧ EvQ C.prog f (args.toList.map (norm W.heap.size)) (mir W) fun v _ => v = .bool true) :
    ReturnsInHanded a C os f .any (s.pre6 enc C.prog fn conds apart) (s.post enc C.prog fn apart true handsOn false) := by
  refine returnsInHanded_of_calls own started noInit witness ?_
  intro w tape i _ hsh _ hok hpre _
  obtain ⟨⟨ds, gs, before, hw, hc⟩, _⟩ := hpre
  obtain ⟨_, _, _, fn', hfn', _, _, _, _, hval⟩ := hok
  rw [Option.some.inj (hfn'.symm.trans hfn)] at hval
  have hw' : DataW.Whole enc C.prog fn.params.toList s.vars apart (w.forCall tape i) i.args.toList ds gs before := DataW.Whole.of_heap (w' := w.forCall tape i) (by rfl) hw
  have hsz := shaped_size hlow hsh
  obtain ⟨p, q, hA, _⟩ := hw'
  obtain ⟨hrel, v, h', ⟨n, hev⟩, hq⟩ := run _ _ _ _ _ hval hsh hsz hA
  subst hq
  have hw' : DataW.Whole enc C.prog fn.params.toList s.vars apart (w.forCall tape i) i.args.toList ds gs before := DataW.Whole.of_heap (w' := w.forCall tape i) (by rfl) hw
  obtain ⟨_, hcalls⟩ := calls_ok (B0 := Zn.lt (w.forCall tape i).heap.size) (w0 := w.forCall tape i) n f _ _ _ _ hev
  have hglob : Glob C.prog (argMap (w.forCall tape i).heap.size) := fun g hg => argMap_lt (Nat.lt_of_lt_of_le hg hsz)
  have hargs : (⟨i.args.toList⟩ : Array Value) = i.args := by simp
  have := hcalls _ _ _ hrel (mir_rel _) hglob
  rw [hargs] at this
  refine this.mono fun e W' he => ?_
  obtain ⟨ψ, v', _, rfl, hv', HR⟩ := he
  rw [hv'.bool_inv]
  exact ChangeSpec.post_blind (post_args hlaid hparams hr ht hv hs hw' HR.below.below)
end Go.Abs
end

section
/- Arguments opened: what their reading says of the memory. -/
open Go.RowKit
namespace Go.Abs
open Go.ChangeShapes
section
variable {H : Type} {enc : TypeId × Value → H} {P : Program} {W : World} {fuel : Nat} {t e : TypeId} {cs : List Value} {x : DataW H × List MemPlace} {held : Bool}

theorem cell_block {a : Addr} {v : Value} (h : W.cell? a = some v) : a.block < W.heap.size ∧ a.spot = none := by
  unfold World.cell? at h
  split at h
  · rename_i c t fr hh
    refine ⟨(Array.getElem?_eq_some_iff.1 hh).1, ?_⟩
    split at h
    · cases h
    · rename_i hs; simpa using hs
  · cases h
theorem cells_get {base : Nat} {a : Addr} {n : Nat} {l : List Value} (h : W.cells? base a n = some l) : l.length = n ∧ ∀ (j : Nat) u, l[j]? = some u → W.cell? (a.add j) = some u := by
  unfold World.cells? at h
  split at h
  · have hl : l.length = n := by simpa using mapM_some_length h
    refine ⟨hl, fun j u hu => ?_⟩
    have hj : j < n := by rw [← hl]; exact (List.getElem?_eq_some_iff.1 hu).1
    have := mapM_some_get h j j (by simp [hj])
    rw [this]; exact hu
  · cases h
theorem add_zero (a : Addr) : a.add 0 = a := by simp [Addr.add]
/-- A slice opened. -/
theorem open_sl (ht : P.underlying t = some (.slice e)) (hk : 0 < P.cellsOf e) (h : DataW.trod enc P W 0 (fun _ => true) held fuel t cs = some x) :
    ∃ (v : Value) (a' : Option Addr) (len cap : Nat) (css : List (List Value)) (n : Nat), cs = [v] ∧ VRel (argMap W.heap.size) (norm W.heap.size v) v ∧ norm W.heap.size v = .slice a' len cap ∧ css.length = len ∧ len ≤ cap ∧ cap ≤ maxLen ∧
      (∀ (i : Nat) c, css[i]? = some c → c.length = P.cellsOf e ∧ ∃ y, DataW.trod enc P W 0 (fun _ => true) held n e c = some y) ∧ n + 1 = fuel ∧
      ((a' = none ∧ len = 0) ∨ ∃ b off, a' = some ⟨b, off, none⟩ ∧ b < W.heap.size + 1 ∧ ∀ (i : Nat) c (j : Nat) u, css[i]? = some c → c[j]? = some u → W.cell? ⟨b, off + i * P.cellsOf e + j, none⟩ = some u) := by
  rcases DataW.trod_slice ht h with ⟨rfl, _⟩ | ⟨a, len, cap, elems, rest, n, hf, rfl, _, _, hlc, hcm, hel, he, hr, _⟩
  · obtain ⟨n, rfl⟩ : ∃ n, fuel = n + 1 := by
      cases fuel with
      | zero => simp [DataW.trod] at h
      | succ n => exact ⟨n, rfl⟩
    exact ⟨_, none, 0, 0, [], n, rfl, .sliceN 0 0, rfl, rfl, Nat.le_refl _, Nat.zero_le _, fun i c hc => by simp at hc, rfl, .inl ⟨rfl, rfl⟩⟩
  · -- the elements' cells
    have hex : ∀ i, i < len → ∃ c, W.cells? 0 (a.add (i * P.cellsOf e)) (P.cellsOf e) = some c ∧ ∃ y, DataW.trod enc P W 0 (fun _ => true) held n e c = some y := by
      intro i hi
      have := he i hi
      rw [List.getElem?_eq_getElem (by omega)] at this
      obtain ⟨c, h1, h2⟩ := Option.bind_eq_some_iff.1 this
      exact ⟨c, h1, _, h2⟩
    let css : List (List Value) := (List.range len).map fun i => (W.cells? 0 (a.add (i * P.cellsOf e)) (P.cellsOf e)).getD []
    have hcs : ∀ (i : Nat) c, css[i]? = some c → W.cells? 0 (a.add (i * P.cellsOf e)) (P.cellsOf e) = some c ∧ ∃ y, DataW.trod enc P W 0 (fun _ => true) held n e c = some y := by
      intro i c hc
      have hi : i < len := by have := (List.getElem?_eq_some_iff.1 hc).1; simpa [css] using this
      obtain ⟨c', h1, h2⟩ := hex i hi
      have : css[i]? = some c' := by simp [css, hi, h1]
      rw [this] at hc; cases hc
      exact ⟨h1, h2⟩
    have hclen : css.length = len := by simp [css]
    have hcell : 0 < len ∨ 0 < cap → a.block < W.heap.size ∧ a.spot = none := by
      intro h0
      by_cases hl : 0 < len
      · obtain ⟨c, h1, _⟩ := hex 0 hl
        obtain ⟨hl1, hg⟩ := cells_get h1
        have := hg 0 c[0] (List.getElem?_eq_getElem (by omega))
        rw [Nat.zero_mul, add_zero, add_zero] at this
        exact cell_block this
      · have hc0 : 0 < cap := by omega
        obtain ⟨hrl, hrj⟩ := hr rfl
        have := hrj 0 (by omega)
        rw [List.getElem?_eq_getElem (by omega)] at this
        obtain ⟨c, h1, _⟩ := Option.bind_eq_some_iff.1 this
        obtain ⟨hl1, hg⟩ := cells_get h1
        have := hg 0 c[0] (List.getElem?_eq_getElem (by omega))
        rw [show len + 0 = 0 from by omega, Nat.zero_mul, add_zero, add_zero] at this
        exact cell_block this
    by_cases h0 : len = 0 ∧ cap = 0
    · obtain ⟨rfl, rfl⟩ := h0
      refine ⟨_, some ⟨W.heap.size, 0, none⟩, 0, 0, css, n, rfl, ?_, rfl, hclen, hlc, hcm, fun i c hc => ⟨(cells_get (hcs i c hc).1).1, (hcs i c hc).2⟩, hf.symm, .inr ⟨W.heap.size, 0, rfl, Nat.lt_succ_self _, fun i c j u hc => ?_⟩⟩
      · exact VRel.slice (κ := 0) argMap_S (Nat.zero_le _) (.inr ⟨rfl, rfl⟩)
      · have := (List.getElem?_eq_some_iff.1 hc).1; omega
    · obtain ⟨hb, hs⟩ := hcell (by omega)
      obtain ⟨b, off, sp⟩ := a
      simp only at hs hb
      subst hs
      have hn : norm W.heap.size (.slice (some ⟨b, off, none⟩) len cap) = .slice (some ⟨b, off, none⟩) len cap := by
        unfold norm
        split
        · rename_i e1; cases e1; exact absurd ⟨rfl, rfl⟩ h0
        · rfl
      refine ⟨_, some ⟨b, off, none⟩, len, cap, css, n, rfl, ?_, hn, hclen, hlc, hcm, fun i c hc => ⟨(cells_get (hcs i c hc).1).1, (hcs i c hc).2⟩, hf.symm, .inr ⟨b, off, rfl, by omega, fun i c j u hc hu => ?_⟩⟩
      · rw [hn]
        exact VRel.slice (κ := 0) (argMap_lt hb) (Nat.zero_le _) (.inl rfl)
      · have := (cells_get (hcs i c hc).1).2 j u hu
        rw [Addr.add_lit, Addr.add_lit] at this
        exact this
theorem open_str (ht : P.underlying t = some .string) (h : DataW.trod enc P W 0 (fun _ => true) held fuel t cs = some x) : ∃ s : ByteArray, cs = [.string s] ∧ s.size ≤ maxLen := by
  obtain ⟨s, h1, _, h2⟩ := DataW.trod_string ht h
  exact ⟨s, h1, h2⟩
theorem open_i64 (ht : P.underlying t = some (.int .i64)) (h : DataW.trod enc P W 0 (fun _ => true) held fuel t cs = some x) : ∃ n : Int, cs = [.int .i64 n] ∧ -9223372036854775808 ≤ n ∧ n < 9223372036854775808 := by
  obtain ⟨n, h1, _, h2⟩ := DataW.trod_int ht h
  refine ⟨n, h1, ?_⟩
  simp only [Lit.wf, Bool.and_eq_true, decide_eq_true_eq, IntKind.min, IntKind.max, IntKind.signed, IntKind.bits] at h2
  simp at h2
  omega
/-- What stands at the elements, in the deterministic heap. -/
theorem view_of {α : Type} {f : α → List Value} {b off k : Nat} {css : List (List Value)} {l : List α} (hl : css = l.map f) (hk : ∀ x, (f x).length = k) (hn : ∀ x, x ∈ l → ∀ u, u ∈ f x → norm W.heap.size u = u ∧ VRel (argMap W.heap.size) u u)
    (hc : ∀ (i : Nat) c (j : Nat) u, css[i]? = some c → c[j]? = some u → W.cell? ⟨b, off + i * k + j, none⟩ = some u) : ∀ j, j < (l.flatMap f).length → (mir W).rd b (off + j) = (l.flatMap f)[j]? := by
  intro j hj
  rcases Nat.eq_zero_or_pos k with h0 | h0
  · rw [flat_len hk, h0] at hj; omega
  rw [flat_len hk] at hj
  have hq : j / k < l.length := Nat.div_lt_of_lt_mul (by rw [Nat.mul_comm]; exact hj)
  have hr : j % k < k := Nat.mod_lt _ h0
  have hjj : j / k * k + j % k = j := by rw [Nat.mul_comm]; exact Nat.div_add_mod j k
  have hget : (l.flatMap f)[j]? = (f l[j / k])[j % k]? := by
    conv => lhs; rw [← hjj]
    rw [flat_get hk hr, List.getElem?_eq_getElem hq]; rfl
  have hu : (f l[j / k])[j % k]? = some ((f l[j / k])[j % k]'(by rw [hk]; exact hr)) := List.getElem?_eq_getElem _
  generalize (f l[j / k])[j % k]'(by rw [hk]; exact hr) = u at hu
  have hcell := hc (j / k) (f l[j / k]) (j % k) u (by rw [hl, List.getElem?_map, List.getElem?_eq_getElem hq]; rfl) hu
  have hnn := hn _ (List.getElem_mem hq) u (List.mem_of_getElem? hu)
  rw [hget, hu]
  have := mir_rd hcell (by rw [hnn.1]; exact hnn.2)
  rw [hnn.1] at this
  rw [← this, Nat.add_assoc, hjj]
/-- Each list of a kind. -/
theorem each_ex {α : Type} {f : α → List Value} : ∀ {css : List (List Value)}, (∀ (i : Nat) c, css[i]? = some c → ∃ x : α, c = f x) → ∃ l : List α, css = l.map f
  | [], _ => ⟨[], rfl⟩
  | c :: css, h => by
    obtain ⟨x, hx⟩ := h 0 c rfl
    obtain ⟨l, hl⟩ := each_ex (css := css) fun i c hc => h (i + 1) c (by simpa using hc)
    exact ⟨x :: l, by rw [hx, hl]; rfl⟩
/-- A slice of plain elements opened: what it shows. -/
theorem open_view {α : Type} (f : α → List Value) (hf : ∀ x, (f x).length = P.cellsOf e) (p : α → Prop) (hp : ∀ x, p x → ∀ u, u ∈ f x → norm W.heap.size u = u ∧ VRel (argMap W.heap.size) u u)
    (hop : ∀ n c y, DataW.trod enc P W 0 (fun _ => true) held n e c = some y → ∃ x, c = f x ∧ p x) (ht : P.underlying t = some (.slice e)) (hk : 0 < P.cellsOf e) (h : DataW.trod enc P W 0 (fun _ => true) held fuel t cs = some x) :
    ∃ (v : Value) (a' : Option Addr) (cap : Nat) (l : List α), cs = [v] ∧ VRel (argMap W.heap.size) (norm W.heap.size v) v ∧ norm W.heap.size v = .slice a' l.length cap ∧ l.length ≤ cap ∧ cap ≤ maxLen ∧ (∀ x, x ∈ l → p x) ∧
      ((a' = none ∧ l.flatMap f = []) ∨ ∃ i off, a' = some ⟨i, off, none⟩ ∧ i < W.heap.size + 1 ∧ ∀ j, j < (l.flatMap f).length → (mir W).rd i (off + j) = (l.flatMap f)[j]?) := by
  obtain ⟨v, a', len, cap, css, n, rfl, hv, hn, hl, hlc, hcm, hc, _, hw⟩ := open_sl ht hk h
  obtain ⟨l, hcl⟩ := each_ex (f := fun x : {x // p x} => f x.1) (css := css) fun i c hi => by
    obtain ⟨_, y, hy⟩ := hc i c hi
    obtain ⟨x, h1, h2⟩ := hop _ _ _ hy
    exact ⟨⟨x, h2⟩, h1⟩
  have hll : (l.map (·.1)).length = len := by rw [← hl, hcl]; simp
  have hcl' : css = (l.map (·.1)).map f := by rw [hcl, List.map_map]; rfl
  have hpl : ∀ x, x ∈ l.map (·.1) → p x := by
    intro x hx
    obtain ⟨y, _, rfl⟩ := List.mem_map.1 hx
    exact y.2
  refine ⟨v, a', cap, l.map (·.1), rfl, hv, by rw [hn, hll], by omega, hcm, hpl, ?_⟩
  rcases hw with ⟨h1, h2⟩ | ⟨b, off, h1, h2, h3⟩
  · refine .inl ⟨h1, ?_⟩
    have : l = [] := by
      have : l.length = 0 := by rw [← h2, ← hll]; simp
      exact List.eq_nil_of_length_eq_zero this
    rw [this]; rfl
  · exact .inr ⟨b, off, h1, h2, view_of hcl' hf (fun x hx => hp x (hpl x hx)) h3⟩
/-- The fields of a struct opened. -/
theorem open_struct {fs : Array Field} (ht : P.underlying t = some (.struct fs)) (h : DataW.trod enc P W 0 (fun _ => true) held fuel t cs = some x) :
    cs.length = P.cellsOf t ∧ ∃ n, ∀ (i : Nat) (f : Field), fs[i]? = some f → ∃ y, DataW.trod enc P W 0 (fun _ => true) held n f.type ((cs.drop f.offset).take (P.cellsOf f.type)) = some y := by
  obtain ⟨xs, n, _, _, hl, hx, hf⟩ := DataW.trod_struct ht h
  refine ⟨hl, n, fun i f hi => ?_⟩
  have hlt : i < xs.length := by rw [hx]; exact (Array.getElem?_eq_some_iff.1 hi).1
  rw [hf i f hi, List.getElem?_eq_getElem hlt]
  exact ⟨_, rfl⟩
end
end Go.Abs
end
