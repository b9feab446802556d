/- A region whose order is open: every order comes to what the text's own comes to. -/
import Derived.Test.YtgdkekdedgkglaaBkDraw
open Go.RowKit
namespace Go.Abs
variable {B0 : Nat} {w0 : World} {φ : Map} {h h' : AW} {w : World} {P : Program}

theorem maskOf_spec {acc : List Nat} {i : Nat} : ∀ {l : List Edge}, (maskOf acc l).testBit i = true → ∃ e, e ∈ l ∧ Region.binds .any e = true ∧ (i = e.on ∨ (acc.getD e.on 0).testBit i = true)
  | [], h => by simp [maskOf] at h
  | e :: l, h => by
    simp only [maskOf] at h
    split at h
    · rename_i hb
      rw [Nat.testBit_or, Nat.testBit_or, Nat.testBit_two_pow] at h
      simp only [Bool.or_eq_true, decide_eq_true_eq] at h
      rcases h with (h | h) | h
      · exact ⟨e, by simp, hb, .inl h.symm⟩
      · exact ⟨e, by simp, hb, .inr h⟩
      · obtain ⟨e', a, b, c⟩ := maskOf_spec h
        exact ⟨e', by simp [a], b, c⟩
    · obtain ⟨e', a, b, c⟩ := maskOf_spec h
      exact ⟨e', by simp [a], b, c⟩

theorem masks_pre : ∀ (l : List Oper) (acc : List Nat), ∃ r, masks l acc = acc ++ r
  | [], acc => ⟨[], by simp [masks]⟩
  | o :: l, acc => by
    obtain ⟨r, hr⟩ := masks_pre l (acc ++ [maskOf acc o.after.toList])
    exact ⟨maskOf acc o.after.toList :: r, by simp [masks, hr]⟩

theorem masks_at : ∀ (l : List Oper) (acc : List Nat) (k : Nat) (o : Oper), l[k]? = some o → ∃ pre r : List Nat, masks l acc = pre ++ maskOf pre o.after.toList :: r ∧ pre.length = acc.length + k := by
  intro l
  induction l with
  | nil => intro acc k o h; simp at h
  | cons o' l ih =>
    intro acc k o h
    cases k with
    | zero =>
      simp only [List.getElem?_cons_zero, Option.some.injEq] at h
      subst h
      obtain ⟨r, hr⟩ := masks_pre l (acc ++ [maskOf acc o'.after.toList])
      refine ⟨acc, r, ?_, by omega⟩
      rw [masks, hr, List.append_assoc]; rfl
    | succ k =>
      rw [List.getElem?_cons_succ] at h
      obtain ⟨pre, r, a, b⟩ := ih (acc ++ [maskOf acc o'.after.toList]) k o h
      refine ⟨pre, r, ?_, ?_⟩
      · rw [masks]; exact a
      · rw [List.length_append, List.length_singleton] at b; omega

theorem edgesOk_spec {j : Nat} : ∀ {l : List Edge}, edgesOk j l = true → ∀ e, e ∈ l → Region.binds .any e = true → e.on < j
  | e :: l, h, x, hx, hb => by
    simp only [edgesOk, Bool.and_eq_true, Bool.or_eq_true, Bool.not_eq_true'] at h
    rcases List.mem_cons.1 hx with rfl | hm
    · rcases h.1 with h1 | h1
      · rw [hb] at h1; cases h1
      · have := ble_true h1; omega
    · exact edgesOk_spec h.2 x hm hb

theorem rowOk_spec {M : List Nat} {ops : List Oper} {j : Nat} {oj : Oper} : ∀ {l : List Oper} {k : Nat}, rowOk M ops j oj k l = true → ∀ i oi, l[i]? = some oi → pairOk M ops (k + i) oi j oj = true
  | [], k, h, i, oi, hi => by simp at hi
  | o :: l, k, h, i, oi, hi => by
    simp only [rowOk, Bool.and_eq_true] at h
    cases i with
    | zero => simp at hi; subst hi; exact h.1
    | succ i =>
      simp at hi
      have := rowOk_spec h.2 i oi hi
      rwa [show k + 1 + i = k + (i + 1) from by omega] at this

theorem allRows_spec {M : List Nat} {ops : List Oper} : ∀ {l : List Oper} {k : Nat}, allRows M ops k l = true → ∀ j oj, l[j]? = some oj → rowOk M ops (k + j) oj 0 ops = true ∧ edgesOk (k + j) oj.after.toList = true
  | [], k, h, j, oj, hj => by simp at hj
  | o :: l, k, h, j, oj, hj => by
    simp only [allRows, Bool.and_eq_true] at h
    cases j with
    | zero => simp at hj; subst hj; exact h.1
    | succ j =>
      simp at hj
      have := allRows_spec h.2 j oj hj
      rwa [show k + 1 + j = k + (j + 1) from by omega] at this

/-- What the fixed look at a region says. -/
structure Static (ops : List Oper) : Prop where
  edge : ∀ j oj, ops[j]? = some oj → ∀ e, e ∈ oj.after.toList → Region.binds .any e = true → e.on < j
  mask : ∀ j oj i, ops[j]? = some oj → bef (masks ops []) i j = true → ∃ e, e ∈ oj.after.toList ∧ Region.binds .any e = true ∧ (i = e.on ∨ bef (masks ops []) i e.on = true)
  pair : ∀ i j oi oj, ops[i]? = some oi → ops[j]? = some oj → i ≠ j → ∀ d, oi.dst = some d → oj.dst ≠ some d ∧ (d ∈ readsOf ops oj → (i < j → bef (masks ops []) i j = true) ∧ (j < i → bef (masks ops []) j i = true))

theorem static_of {ops : List Oper} (hs : staticOk ops = true) : Static ops := by
  have hall := fun j oj hj => allRows_spec (k := 0) hs j oj hj
  simp only [Nat.zero_add] at hall
  refine ⟨fun j oj hj e he hb => edgesOk_spec (hall j oj hj).2 e he hb, ?_, ?_⟩
  · intro j oj i hj hb
    obtain ⟨pre, r, a, b⟩ := masks_at ops [] j oj hj
    simp only [List.length_nil, Nat.zero_add] at b
    unfold bef at hb
    rw [show (masks ops []).getD j 0 = maskOf pre oj.after.toList from by rw [a, List.getD_eq_getElem?_getD, List.getElem?_append_right (by omega), b]; simp] at hb
    obtain ⟨e, he, hbi, hc⟩ := maskOf_spec hb
    have hlt := edgesOk_spec (hall j oj hj).2 e he hbi
    refine ⟨e, he, hbi, hc.imp id fun hc => ?_⟩
    unfold bef
    rw [show (masks ops []).getD e.on 0 = pre.getD e.on 0 from by rw [a, List.getD_eq_getElem?_getD, List.getD_eq_getElem?_getD, List.getElem?_append_left (by omega)]]
    exact hc
  · intro i j oi oj hi hj hij d hd
    have hp := rowOk_spec (hall j oj hj).1 i oi hi
    simp only [Nat.zero_add] at hp
    unfold pairOk at hp
    rw [show Nat.beq i j = false from by cases hb : Nat.beq i j with
      | false => rfl
      | true => exact absurd (beq_true hb) hij, hd] at hp
    simp only [Bool.and_eq_true, Bool.not_eq_true', decide_eq_false_iff_not, Bool.or_eq_true] at hp
    refine ⟨hp.1, fun hm => ?_⟩
    rcases hp.2 with h2 | h2
    · have : (readsOf ops oj).contains d = true := by simpa using hm
      rw [h2] at this; cases this
    · constructor
      · intro hlt
        rw [show Nat.ble (i + 1) j = true from Nat.ble_eq_true_of_le hlt] at h2
        exact h2
      · intro hlt
        rw [show Nat.ble (i + 1) j = false from by cases hb : Nat.ble (i + 1) j with
          | false => rfl
          | true => have := ble_true hb; omega] at h2
        exact h2

theorem acts_at : ∀ (l : List St) (k m i : Nat) (h : AW), (acts k l)[m]? = some (i, h) → k ≤ i ∧ (∃ s, l[i - k]? = some s ∧ s.act = some h) ∧ m = (acts k (l.take (i - k))).length
  | [], k, m, i, h, hm => by simp [acts] at hm
  | s :: l, k, m, i, h, hm => by
    simp only [acts] at hm
    cases ha : s.act with
    | none =>
      rw [ha] at hm
      obtain ⟨a, ⟨s', b, c⟩, d⟩ := acts_at l (k + 1) m i h hm
      have e : i - k = (i - (k + 1)) + 1 := by omega
      refine ⟨by omega, ⟨s', by rw [e]; simpa using b, c⟩, ?_⟩
      rw [e, List.take_succ_cons]
      simp only [acts, ha]
      exact d
    | some x =>
      rw [ha] at hm
      cases m with
      | zero =>
        simp at hm
        obtain ⟨rfl, rfl⟩ := hm
        exact ⟨Nat.le_refl _, ⟨s, by simp, ha⟩, by simp [acts]⟩
      | succ m =>
        simp at hm
        obtain ⟨a, ⟨s', b, c⟩, d⟩ := acts_at l (k + 1) m i h hm
        have e : i - k = (i - (k + 1)) + 1 := by omega
        refine ⟨by omega, ⟨s', by rw [e]; simpa using b, c⟩, ?_⟩
        rw [e, List.take_succ_cons]
        simp only [acts, ha, List.length_cons]
        omega

theorem hAt_succ : ∀ (h : AW) (As : List (Nat × AW)) (k : Nat) (p : Nat × AW), As[k]? = some p → hAt h As (k + 1) = p.2
  | h, [], k, p, hk => by simp at hk
  | h, q :: l, 0, p, hk => by simp at hk; subst hk; simp [hAt, hAt_zero]
  | h, q :: l, k + 1, p, hk => by simp at hk; simp only [hAt]; exact hAt_succ q.2 l k p hk

theorem noneBef_spec {M : List Nat} {j : Nat} : ∀ {As : List (Nat × AW)}, (∀ (m : Nat) (p : Nat × AW), As[m]? = some p → bef M p.1 j = false) → noneBef M j As = true
  | [], _ => rfl
  | p :: l, h => by
    simp only [noneBef, Bool.and_eq_true, Bool.not_eq_true']
    exact ⟨h 0 p rfl, noneBef_spec fun m q hq => h (m + 1) q (by simpa using hq)⟩

theorem chk_spec {M : List Nat} {j : Nat} {check : AW → Bool} : ∀ (As : List (Nat × AW)) (h : AW) (k : Nat), chkFrom M j check h As = true → k ≤ As.length → (∀ (m : Nat) (p : Nat × AW), m < k → As[m]? = some p → bef M j p.1 = false) →
    (∀ (m : Nat) (p : Nat × AW), k ≤ m → As[m]? = some p → bef M p.1 j = false) → check (hAt h As k) = true
  | [], h, k, hc, hk, _, _ => by
    simp only [chkFrom, noneBef, Bool.not_true, Bool.false_or, Bool.and_true] at hc
    exact hc
  | p :: l, h, 0, hc, hk, _, h2 => by
    simp only [chkFrom, Bool.and_eq_true, Bool.or_eq_true, Bool.not_eq_true'] at hc
    rcases hc.1 with h1 | h1
    · rw [noneBef_spec fun m q hq => h2 m q (by omega) hq] at h1; cases h1
    · exact h1
  | p :: l, h, k + 1, hc, hk, h1, h2 => by
    simp only [chkFrom, Bool.and_eq_true, Bool.or_eq_true] at hc
    rcases hc.2 with hb | hb
    · rw [h1 0 p (by omega) rfl] at hb; cases hb
    · exact chk_spec l p.2 k hb (by simpa using hk) (fun m q hm hq => h1 (m + 1) q (by omega) (by simpa using hq)) (fun m q hm hq => h2 (m + 1) q (by omega) (by simpa using hq))

theorem chain_spec {M : List Nat} : ∀ {As : List (Nat × AW)}, chainOk M As = true → ∀ (m : Nat) (p q : Nat × AW), As[m]? = some p → As[m + 1]? = some q → bef M p.1 q.1 = true
  | [], h, m, p, q, hp, hq => by simp at hp
  | a :: l, h, m, p, q, hp, hq => by
    simp only [chainOk, Bool.and_eq_true] at h
    cases m with
    | zero =>
      simp at hp; subst hp
      cases l with
      | nil => simp at hq
      | cons b l => simp at hq; subst hq; exact h.1
    | succ m =>
      simp at hp
      have hq' : l[m + 1]? = some q := by simpa using hq
      exact chain_spec h.2 m p q hp hq'

theorem sts_spec {M : List Nat} {h : AW} {As : List (Nat × AW)} : ∀ {l : List St} {k : Nat}, stsOk P M h As k l = true → ∀ j s, l[j]? = some s → stOk P M h As (k + j) s = true
  | [], k, hs, j, s, hj => by simp at hj
  | s' :: l, k, hs, j, s, hj => by
    simp only [stsOk, Bool.and_eq_true] at hs
    cases j with
    | zero => simp at hj; subst hj; exact hs.1
    | succ j =>
      simp at hj
      have := sts_spec hs.2 j s hj
      rwa [show k + 1 + j = k + (j + 1) from by omega] at this

def unl (listed : Array Bool) : Nat := listed.toList.countP (!·)

theorem unl_set {listed : Array Bool} {j : Nat} (hj : listed[j]? = some false) : unl listed = unl (listed.setIfInBounds j true) + 1 := by
  unfold unl
  rw [Array.toList_setIfInBounds]
  have hj' : listed.toList[j]? = some false := by simpa using hj
  clear hj
  generalize listed.toList = l at hj'
  induction l generalizing j with
  | nil => simp at hj'
  | cons b l ih =>
    cases j with
    | zero => simp at hj'; subst hj'; simp
    | succ j =>
      simp at hj'
      simp only [List.set_cons_succ, List.countP_cons]
      have := ih hj'
      omega

end Go.Abs
