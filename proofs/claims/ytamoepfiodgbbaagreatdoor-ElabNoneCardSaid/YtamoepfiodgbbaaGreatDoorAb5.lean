/- A deterministic heap for the model, proved sound, and walks of the program over it: part 5. No condition. -/
import Derived.Test.YtamoepfiodgbbaaGreatDoorAb2
import Derived.Test.YtamoepfiodgbbaaGreatDoorAb3
import Derived.Test.YtamoepfiodgbbaaGreatDoorAb4
import Derived.Test.YtamoepfiodgbbaaGreatDoorAb1
import Derived.ProofKit
import Derived.Conc.Holds
import Derived.Lib.LaidTab
import Derived.Deep.DeepHandedRow
import Derived.Stop.LaidErr
import Derived.Carry
import Derived.ChangeArms
set_option linter.unusedVariables false
set_option linter.unusedSimpArgs false
set_option linter.unusedSectionVars false
section
/- Slices that are owned: written, cut, appended to. -/
namespace Go.Abs
variable {S : Nat → Prop} {h h' : AW} {μ μ' : Paint} {c : Nat} {P : Program}

def Kind (h : AW) (μ : Paint) (c i off cap sz : Nat) : Prop :=
  (∃ t n ro, h.objs.get? i = some (.var t n ro) ∧ off + cap * sz ≤ n ∧ (ro = true → cap = 0)) ∨
  (∃ f g lo hi t ext frz, h.objs.get? i = some (.row f g lo hi sz t) ∧ h.fams.get? f = some ⟨g, ext, frz⟩ ∧ f < h.next ∧ μ f = c ∧ lo ≤ off ∧ off + cap * sz = hi ∧ frz ≤ lo)

/-- The cells vs stand at a, and there is room for cap elements of sz cells; all of it bears the mark c. -/
structure OM (h : AW) (μ : Paint) (c : Nat) (a : Option Addr) (cap sz : Nat) (vs : List Value) : Prop where
  le : vs.length ≤ cap * sz
  one : allOne vs = true
  mem : (a = none ∧ cap = 0) ∨ ∃ i off, a = some ⟨i, off, none⟩ ∧ i < h.next ∧ μ i = c ∧ (∀ j, j < vs.length → h.rd i (off + j) = vs[j]?) ∧ Kind h μ c i off cap sz

variable {a : Option Addr} {cap sz : Nat} {vs : List Value}
theorem OM.nil : OM h μ c none 0 sz [] := ⟨by simp, rfl, .inl ⟨rfl, rfl⟩⟩
theorem OM.sl (O : OM h μ c a cap sz vs) : Sl h a vs := by
  rcases O.mem with ⟨e, rfl⟩ | ⟨i, off, e, _, _, r, _⟩
  · refine .inl ⟨e, List.eq_nil_of_length_eq_zero ?_⟩
    have := O.le; omega
  · exact .inr ⟨i, off, e, r⟩
theorem rd_same {i off : Nat} (ho : h'.objs.get? i = h.objs.get? i) (hf : ∀ f g lo hi z t, h.objs.get? i = some (.row f g lo hi z t) → h'.fams.get? f = h.fams.get? f) : h'.rd i off = h.rd i off := by
  unfold AW.rd
  rw [ho]
  split
  · rfl
  · rename_i f g lo hi z t e
    rw [hf _ _ _ _ _ _ e]
  · rfl
theorem OM.keep (O : OM h μ c a cap sz vs) (hs : ¬ S c) (C : Chg S h μ h' μ') : OM h' μ' c a cap sz vs := by
  refine ⟨O.le, O.one, ?_⟩
  rcases O.mem with x | ⟨i, off, e, hi, hm, r, k⟩
  · exact .inl x
  · have ho := C.obj i hi (by rw [hm]; exact hs)
    refine .inr ⟨i, off, e, Nat.lt_of_lt_of_le hi C.le, by rw [C.mark i hi, hm], fun j hj => ?_, ?_⟩
    · rw [← r j hj]
      refine rd_same ho fun f g lo hi' z t hrow => ?_
      rcases k with ⟨t', n, ro, h1, _⟩ | ⟨f', g', lo', hi'', t', ext, frz, h1, h2, h3, h4, _⟩
      · rw [h1] at hrow; cases hrow
      · rw [h1] at hrow; cases hrow
        exact C.fam f h3 (by rw [h4]; exact hs)
    · rcases k with ⟨t', n, ro, h1, h2⟩ | ⟨f', g', lo', hi'', t', ext, frz, h1, h2, h3, h4, h5⟩
      · exact .inl ⟨t', n, ro, by rw [ho]; exact h1, h2⟩
      · exact .inr ⟨f', g', lo', hi'', t', ext, frz, by rw [ho]; exact h1, by rw [C.fam f' h3 (by rw [h4]; exact hs)]; exact h2, Nat.lt_of_lt_of_le h3 C.le, by rw [C.mark f' h3, h4], h5⟩
/-- The cells vs stand at a, and it all bears the mark c. -/
def SM (h : AW) (μ : Paint) (c : Nat) (a : Option Addr) (vs : List Value) : Prop :=
  (a = none ∧ vs = []) ∨ ∃ i off, a = some ⟨i, off, none⟩ ∧ i < h.next ∧ μ i = c ∧ (∀ f g lo hi z t, h.objs.get? i = some (.row f g lo hi z t) → f < h.next ∧ μ f = c) ∧ ∀ j, j < vs.length → h.rd i (off + j) = vs[j]?
theorem SM.sl (X : SM h μ c a vs) : Sl h a vs := by
  rcases X with x | ⟨i, off, e, _, _, _, r⟩
  · exact .inl x
  · exact .inr ⟨i, off, e, r⟩
theorem SM.keep (X : SM h μ c a vs) (hs : ¬ S c) (C : Chg S h μ h' μ') : SM h' μ' c a vs := by
  rcases X with x | ⟨i, off, e, h1, h2, h3, r⟩
  · exact .inl x
  · have ho := C.obj i h1 (by rw [h2]; exact hs)
    refine .inr ⟨i, off, e, Nat.lt_of_lt_of_le h1 C.le, by rw [C.mark i h1, h2], fun f g lo hi z t hr => ?_, fun j hj => ?_⟩
    · rw [ho] at hr
      obtain ⟨h4, h5⟩ := h3 f g lo hi z t hr
      exact ⟨Nat.lt_of_lt_of_le h4 C.le, by rw [C.mark f h4, h5]⟩
    · rw [← r j hj]
      refine rd_same ho fun f g lo hi z t hr => ?_
      obtain ⟨h4, h5⟩ := h3 f g lo hi z t hr
      exact C.fam f h4 (by rw [h5]; exact hs)
theorem SM.nil : SM h μ c none [] := .inl ⟨rfl, rfl⟩
theorem allOne_append : ∀ {l m : List Value}, allOne (l ++ m) = (allOne l && allOne m)
  | [], m => rfl
  | v :: l, m => by
    simp only [List.cons_append, allOne]
    cases oneCell v
    · rfl
    · exact allOne_append
theorem allOne_get : ∀ {l : List Value} {j : Nat} {v : Value}, allOne l = true → l[j]? = some v → oneCell v = true
  | [], j, v, _, e => by simp at e
  | w :: l, j, v, ha, e => by
    simp only [allOne] at ha
    split at ha
    · rename_i h1
      cases j with
      | zero => simp at e; subst e; exact h1
      | succ j => simp at e; exact allOne_get ha e
    · cases ha
theorem allOne_of : ∀ {l : List Value}, (∀ v, v ∈ l → oneCell v = true) → allOne l = true
  | [], _ => rfl
  | w :: l, H => by
    simp only [allOne]
    rw [H w (by simp)]
    exact allOne_of fun v hv => H v (by simp [hv])
theorem allOne_mem {l : List Value} (ha : allOne l = true) {v : Value} (hv : v ∈ l) : oneCell v = true := by
  obtain ⟨j, hj, e⟩ := List.getElem_of_mem hv
  exact allOne_get ha (j := j) (by rw [List.getElem?_eq_getElem hj, e])
/-- Written within. -/
theorem OM.wr {i off : Nat} (O : OM h μ c (some ⟨i, off, none⟩) cap sz vs) {j : Nat} {v : Value} (hj : j < cap * sz) (hv : j ≤ vs.length) (h1 : oneCell v = true) :
    ∃ h', h.wr i (off + j) v = some h' ∧ OM h' μ c (some ⟨i, off, none⟩) cap sz (if j < vs.length then vs.set j v else vs ++ [v]) ∧ Chg (· = c) h μ h' μ ∧ h'.next = h.next := by
  rcases O.mem with ⟨e, _⟩ | ⟨i', off', e, hi, hm, r, k⟩
  · cases e
  cases e
  have hone : allOne (if j < vs.length then vs.set j v else vs ++ [v]) = true := by
    split
    · refine allOne_of fun w hw => ?_
      rcases List.mem_or_eq_of_mem_set hw with x | rfl
      · exact allOne_mem O.one x
      · exact h1
    · rw [allOne_append, O.one]; simp [allOne, h1]
  have hlen : (if j < vs.length then vs.set j v else vs ++ [v]).length ≤ cap * sz := by
    split
    · rw [List.length_set]; exact O.le
    · rw [List.length_append]; simp; omega
  have hget : ∀ k, k < (if j < vs.length then vs.set j v else vs ++ [v]).length → (if j < vs.length then vs.set j v else vs ++ [v])[k]? = if k = j then some v else vs[k]? := by
    intro k hk
    split
    · rename_i hlt
      rw [List.getElem?_set]
      by_cases e : k = j
      · subst e; simp [hlt]
      · rw [if_neg (fun x => e x.symm), if_neg e]
    · rename_i hge
      have : j = vs.length := by omega
      subst this
      by_cases e : k = vs.length
      · subst e; simp
      · rw [if_neg e, List.getElem?_append_left]
        rw [if_neg hge] at hk
        simp at hk; omega
  have hlen2 : ∀ k, k < (if j < vs.length then vs.set j v else vs ++ [v]).length → k ≠ j → k < vs.length := by
    intro k hk hne
    split at hk
    · rwa [List.length_set] at hk
    · simp at hk; omega
  rcases k with ⟨t, n, ro, ho, hb, hro⟩ | ⟨f, g, lo, hi', t, ext, frz, ho, hf, hfn, hfm, h5, h6, h7⟩
  · have : ro = false := by
      cases ro
      · rfl
      · have := hro rfl; subst this; simp at hj
    subst this
    refine ⟨{ h with objs := h.objs.set i (.var (t.set (off + j) v) n false) }, ?_, ⟨hlen, hone, .inr ⟨i, off, rfl, hi, hm, fun k hk => ?_, .inl ⟨t.set (off + j) v, n, false, T.get?_set_same _ _ _, hb, fun e => (by cases e)⟩⟩⟩, ⟨Nat.le_refl _, fun _ _ => rfl, fun k hk hn => T.get?_set_ne _ _ (fun e => hn (by rw [e, hm])), fun _ _ _ => rfl, fun _ _ => rfl⟩, rfl⟩
    · unfold AW.wr
      rw [h1, ho]; simp only
      rw [Nat.ble_eq_true_of_le (show off + j + 1 ≤ n by omega)]
    · rw [hget k hk]
      unfold AW.rd
      simp only [T.get?_set_same]
      have hkc : k < cap * sz := Nat.lt_of_lt_of_le hk hlen
      rw [Nat.ble_eq_true_of_le (show off + k + 1 ≤ n by omega)]
      simp only
      rw [T.get?_set]
      by_cases e : k = j
      · subst e; simp
      · rw [if_neg (by omega), if_neg e]
        have := r k (hlen2 k hk e)
        unfold AW.rd at this
        rw [ho] at this; simp only at this
        rw [Nat.ble_eq_true_of_le (show off + k + 1 ≤ n by omega)] at this
        exact this
  · refine ⟨{ h with objs := h.objs.set i (.row f (g + 1) lo hi' sz (t.set (off + j) v)), fams := h.fams.set f { gen := g + 1, ext := ext, frz := frz } }, ?_, ⟨hlen, hone, .inr ⟨i, off, rfl, hi, hm, fun k hk => ?_, .inr ⟨f, g + 1, lo, hi', t.set (off + j) v, ext, frz, T.get?_set_same _ _ _, T.get?_set_same _ _ _, hfn, hfm, h5, h6, h7⟩⟩⟩, ⟨Nat.le_refl _, fun _ _ => rfl, fun k hk hn => T.get?_set_ne _ _ (fun e => hn (by rw [e, hm])), fun k hk hn => T.get?_set_ne _ _ (fun e => hn (by rw [e, hfm])), fun _ _ => rfl⟩, rfl⟩
    · unfold AW.wr
      rw [h1, ho]; simp only
      rw [hf]; simp only
      rw [Nat.beq_refl, Nat.ble_eq_true_of_le (show lo ≤ off + j by omega), Nat.ble_eq_true_of_le (show off + j + 1 ≤ hi' by omega), Nat.ble_eq_true_of_le (show frz ≤ off + j by omega)]
      rfl
    · rw [hget k hk]
      unfold AW.rd
      simp only [T.get?_set_same]
      have hkc : k < cap * sz := Nat.lt_of_lt_of_le hk hlen
      rw [Nat.beq_refl, Nat.ble_eq_true_of_le (show lo ≤ off + k by omega), Nat.ble_eq_true_of_le (show off + k + 1 ≤ hi' by omega)]
      simp only [Bool.and_self]
      rw [T.get?_set]
      by_cases e : k = j
      · subst e; simp
      · rw [if_neg (by omega), if_neg e]
        have := r k (hlen2 k hk e)
        unfold AW.rd at this
        rw [ho] at this; simp only at this
        rw [hf] at this; simp only at this
        rw [Nat.beq_refl, Nat.ble_eq_true_of_le (show lo ≤ off + k by omega), Nat.ble_eq_true_of_le (show off + k + 1 ≤ hi' by omega)] at this
        exact this
/-- Written behind, one after the other. -/
theorem OM.wrL {i off : Nat} : ∀ (new : List Value) {h : AW} {vs : List Value}, OM h μ c (some ⟨i, off, none⟩) cap sz vs → vs.length + new.length ≤ cap * sz → allOne new = true →
    ∃ h', h.wrL i (off + vs.length) new = some h' ∧ OM h' μ c (some ⟨i, off, none⟩) cap sz (vs ++ new) ∧ Chg (· = c) h μ h' μ ∧ h'.next = h.next
  | [], h, vs, O, _, _ => ⟨h, rfl, by simpa using O, Chg.refl, rfl⟩
  | v :: new, h, vs, O, hle, ha => by
    simp only [allOne] at ha
    split at ha
    · rename_i h1
      simp only [List.length_cons] at hle
      obtain ⟨h2, e, O2, C, n2⟩ := O.wr (j := vs.length) (by omega) (Nat.le_refl _) h1
      rw [if_neg (Nat.lt_irrefl _)] at O2
      obtain ⟨h3, e3, O3, C3, n3⟩ := OM.wrL new O2 (by simp; omega) ha
      refine ⟨h3, ?_, by simpa using O3, C.trans C3, by rw [n3, n2]⟩
      simp only [AW.wrL]
      rw [e]; simp only
      rw [List.length_append] at e3
      simpa [Nat.add_assoc] using e3
    · cases ha
/-- The first elements, with all the room. -/
theorem OM.take (O : OM h μ c a cap sz vs) (k : Nat) : OM h μ c a cap sz (vs.take k) := by
  refine ⟨Nat.le_trans (by simp; omega) O.le, allOne_of fun v hv => allOne_mem O.one (List.mem_of_mem_take hv), ?_⟩
  rcases O.mem with x | ⟨i, off, e, hi, hm, r, kk⟩
  · exact .inl x
  · refine .inr ⟨i, off, e, hi, hm, fun j hj => ?_, kk⟩
    rw [List.length_take] at hj
    rw [r j (by omega), List.getElem?_take_of_lt (by omega)]
/-- From an element on. -/
theorem OM.drop {i off : Nat} (O : OM h μ c (some ⟨i, off, none⟩) cap sz vs) {k : Nat} (hk : k ≤ cap) : OM h μ c (some ⟨i, off + k * sz, none⟩) (cap - k) sz (vs.drop (k * sz)) := by
  have hmul : (cap - k) * sz + k * sz = cap * sz := by rw [← Nat.add_mul, Nat.sub_add_cancel hk]
  refine ⟨by rw [List.length_drop]; have := O.le; omega, allOne_of fun v hv => allOne_mem O.one (List.mem_of_mem_drop hv), ?_⟩
  rcases O.mem with ⟨e, _⟩ | ⟨i', off', e, hi, hm, r, kk⟩
  · cases e
  cases e
  refine .inr ⟨i, off + k * sz, rfl, hi, hm, fun j hj => ?_, ?_⟩
  · rw [List.length_drop] at hj
    rw [show off + k * sz + j = off + (k * sz + j) from by omega, r _ (by omega), List.getElem?_drop]
  · rcases kk with ⟨t, n, ro, h1, h2, h3⟩ | ⟨f, g, lo, hi', t, ext, frz, h1, h2, h3, h4, h5, h6, h7⟩
    · exact .inl ⟨t, n, ro, h1, by omega, fun e => by have := h3 e; omega⟩
    · exact .inr ⟨f, g, lo, hi', t, ext, frz, h1, h2, h3, h4, by omega, by omega, h7⟩
/-- Telling a type turns nothing else. -/
theorem OM.tag (O : OM h μ c a cap sz vs) {i : Nat} {t : TypeId} : OM (h.tag i t) μ c a cap sz vs := ⟨O.le, O.one, O.mem⟩
theorem OM.tagAs (O : OM h μ c a cap sz vs) {i : Nat} {t : TypeId} {o : Option TypeId} : OM (h.tagAs i o t) μ c a cap sz vs := by
  unfold AW.tagAs
  split
  · split
    · exact O.tag
    · exact O
  · exact O
theorem Chg.tag (C : Chg S h μ h' μ') {i : Nat} (hi : h.next ≤ i) {t : TypeId} : Chg S h μ (h'.tag i t) μ' :=
  ⟨C.le, C.mark, C.obj, C.fam, fun j hj => (T.get?_set_ne _ _ (by omega)).trans (C.ty j hj)⟩
theorem Chg.tagAs (C : Chg S h μ h' μ') {i : Nat} (hi : h.next ≤ i) {t : TypeId} {o : Option TypeId} : Chg S h μ (h'.tagAs i o t) μ' := by
  unfold AW.tagAs
  split
  · split
    · exact C.tag hi
    · exact C
  · exact C
theorem OM.rdN {i off l : Nat} (O : OM h μ c (some ⟨i, off, none⟩) cap sz vs) (hl : vs.length = l) : h.rdN i off l = some vs := by
  subst hl
  rcases O.mem with ⟨e, _⟩ | ⟨i', off', e, hi, hm, r, kk⟩
  · cases e
  cases e
  exact Sl.rdN r
end Go.Abs
end

section
/- Fresh colours. -/
namespace Go.Abs
variable {S : Nat → Prop} {h h' : AW} {μ μ' : Paint} {c : Nat} {P : Program} {a : Option Addr} {cap sz : Nat} {vs : List Value}

/-- A colour that nothing bears as yet. -/
def Fresh (h : AW) (μ : Paint) (c : Nat) : Prop := ∀ i, i < h.next → μ i ≠ c
theorem Chg.fresh (C : Chg (fun k => S k ∨ k = c) h μ h' μ') (hf : Fresh h μ c) (d : Nat) : Chg S h μ h' (mkNew μ h.next d) := by
  refine ⟨C.le, fun i hi => mkNew_old hi, fun i hi hs => ?_, fun i hi hs => ?_, ?_⟩
  · exact C.obj i hi fun x => x.elim hs fun e => hf i hi e
  · exact C.fam i hi fun x => x.elim hs fun e => hf i hi e
  · exact fun i hi => C.ty i hi
theorem OM.fresh {h0 : AW} (O : OM h' μ' c a cap sz vs) (hf : Fresh h0 μ c) (hm : ∀ i, i < h0.next → μ' i = μ i) (d : Nat) : OM h' (mkNew μ h0.next d) d a cap sz vs := by
  refine ⟨O.le, O.one, ?_⟩
  have new : ∀ i, μ' i = c → mkNew μ h0.next d i = d := by
    intro i e
    refine mkNew_new ?_
    rcases Nat.lt_or_ge i h0.next with x | x
    · exact absurd (by rw [← hm i x, e]) (hf i x)
    · exact x
  rcases O.mem with x | ⟨i, off, e, h1, h2, r, k⟩
  · exact .inl x
  · refine .inr ⟨i, off, e, h1, new i h2, r, ?_⟩
    rcases k with x | ⟨f, g, lo, hi, t, ext, frz, h3, h4, h5, h6, h7⟩
    · exact .inl x
    · exact .inr ⟨f, g, lo, hi, t, ext, frz, h3, h4, h5, new f h6, h7⟩
/-- What bore another colour keeps it. -/
theorem SM.other {h0 : AW} {e d : Nat} (X : SM h' μ' e a vs) (he : ∀ i, i < h'.next → μ' i = e → i < h0.next) (hm : ∀ i, i < h0.next → μ' i = μ i) : SM h' (mkNew μ h0.next d) e a vs := by
  rcases X with x | ⟨i, off, e1, h1, h2, h3, r⟩
  · exact .inl x
  · have hi := he i h1 h2
    refine .inr ⟨i, off, e1, h1, by rw [mkNew_old hi, ← hm i hi, h2], fun f g lo hi z t hr => ?_, r⟩
    obtain ⟨h4, h5⟩ := h3 f g lo hi z t hr
    have hf := he f h4 h5
    exact ⟨h4, by rw [mkNew_old hf, ← hm f hf, h5]⟩
/-- An empty block of no room. -/
theorem OM.empty : OM (h.addVar []) (mkNew μ h.next c) c (some ⟨h.next, 0, none⟩) 0 sz [] :=
  ⟨by simp, rfl, .inr ⟨h.next, 0, rfl, Nat.lt_succ_self _, mkNew_new (Nat.le_refl _), by simp, .inl ⟨_, _, _, T.get?_set_same _ _ _, by simp, fun e => (by cases e)⟩⟩⟩
/-- A new block as a slice. -/
theorem OM.block {l : List Value} {n : Nat} (hl : l.length = n * sz) (ha : allOne l = true) : OM (h.addVar l) (mkNew μ h.next c) c (some ⟨h.next, 0, none⟩) n sz l :=
  ⟨by omega, ha, .inr ⟨h.next, 0, rfl, Nat.lt_succ_self _, mkNew_new (Nat.le_refl _), fun j _ => by rw [Nat.zero_add, addVar_at.rd], .inl ⟨_, _, _, T.get?_set_same _ _ _, by omega, fun e => (by cases e)⟩⟩⟩
end Go.Abs
end

section
/- Named pieces of the heap: what is owned, piece by piece. -/
namespace Go.Abs
variable {S : Nat → Prop} {h h' : AW} {μ μ' : Paint} {P : Program}

inductive Res where
  | var (i : Nat) (l : List Value)
  | sl (a : Option Addr) (cap sz : Nat) (l : List Value)
  | map (i : Nat) (es : List (Value × Value))
  | ro (vs : List (Option Addr × List Value))
  | many (vs : List (Option Addr × Nat × Nat × List Value))
  | bag (vs : List (Option Addr × Nat × Nat × Nat))
  | ty (i : Nat) (t : TypeId)

/-- The family of a row. -/
def famOf (h : AW) (i : Nat) : Option Nat := match h.objs.get? i with
  | some (.row f _ _ _ _ _) => some f
  | _ => none
/-- Rows of one family are one row. -/
def Sep (h : AW) (as : List (Option Addr)) : Prop := ∀ i oi j oj f, some ⟨i, oi, none⟩ ∈ as → some ⟨j, oj, none⟩ ∈ as → famOf h i = some f → famOf h j = some f → i = j
theorem Sep.nil : Sep h [] := fun _ _ _ _ _ h => by simp at h
theorem Sep.one {a : Option Addr} : Sep h [a] := fun i oi j oj f h1 h2 _ _ => by
  simp only [List.mem_singleton] at h1 h2
  rw [← h2] at h1
  cases h1; rfl
theorem Sep.app {c d : Nat} (hcd : c ≠ d) {as bs : List (Option Addr)} (A : ∀ i o f, some ⟨i, o, none⟩ ∈ as → famOf h i = some f → μ f = c) (B : ∀ i o f, some ⟨i, o, none⟩ ∈ bs → famOf h i = some f → μ f = d) (S1 : Sep h as) (S2 : Sep h bs) : Sep h (as ++ bs) := fun i oi j oj f h1 h2 e1 e2 => by
  rcases List.mem_append.1 h1 with x | x <;> rcases List.mem_append.1 h2 with y | y
  · exact S1 i oi j oj f x y e1 e2
  · exact absurd ((A i oi f x e1).symm.trans (B j oj f y e2)) hcd
  · exact absurd ((A j oj f y e2).symm.trans (B i oi f x e1)) hcd
  · exact S2 i oi j oj f x y e1 e2
theorem OM.at_ {c i off cap sz : Nat} {l : List Value} (M : OM h μ c (some ⟨i, off, none⟩) cap sz l) : i < h.next ∧ μ i = c := by
  rcases M.mem with ⟨e, _⟩ | ⟨i', off', e, h1, h2, _⟩
  · cases e
  · cases e; exact ⟨h1, h2⟩
theorem OM.fam {c i off cap sz f : Nat} {l : List Value} (M : OM h μ c (some ⟨i, off, none⟩) cap sz l) (hf : famOf h i = some f) : μ f = c := by
  rcases M.mem with ⟨e, _⟩ | ⟨i', off', e, _, _, _, k⟩
  · cases e
  · cases e
    unfold famOf at hf
    rcases k with ⟨t, n, ro, h1, _⟩ | ⟨f', g, lo, hi, t, ext, frz, h1, _, _, h4, _⟩
    · rw [h1] at hf; cases hf
    · rw [h1] at hf; cases hf; exact h4
theorem Sep.keep {c : Nat} {as : List (Option Addr)} (X : Sep h as) (A : ∀ i o, some ⟨i, o, none⟩ ∈ as → i < h.next ∧ μ i = c) (hs : ¬ S c) (C : Chg S h μ h' μ') : Sep h' as := fun i oi j oj f h1 h2 e1 e2 => by
  have k : ∀ i o, some ⟨i, o, none⟩ ∈ as → famOf h' i = famOf h i := fun i o hm => by
    obtain ⟨a1, a2⟩ := A i o hm
    unfold famOf
    rw [C.obj i a1 (by rw [a2]; exact hs)]
  rw [k i oi h1] at e1
  rw [k j oj h2] at e2
  exact X i oi j oj f h1 h2 e1 e2

def Res.Holds (h : AW) (μ : Paint) (c : Nat) : Res → Prop
  | .var i l => i < h.next ∧ μ i = c ∧ VarAt h i l
  | .sl a cap sz l => OM h μ c a cap sz l
  | .map i es => i < h.next ∧ μ i = c ∧ h.objs.get? i = some (.map es)
  | .ro vs => ∀ a l, (a, l) ∈ vs → SM h μ c a l
  | .many vs => (∀ a cap sz l, (a, cap, sz, l) ∈ vs → OM h μ c a cap sz l) ∧ Sep h (vs.map (·.1))
  | .bag vs => (∀ a cap sz n, (a, cap, sz, n) ∈ vs → ∃ l, l.length = n ∧ OM h μ c a cap sz l) ∧ Sep h (vs.map (·.1))
  | .ty i t => i < h.next ∧ h.tys.get? i = some t

theorem many_at {c : Nat} {vs : List (Option Addr × Nat × Nat × List Value)} (H : ∀ a cap sz l, (a, cap, sz, l) ∈ vs → OM h μ c a cap sz l) : ∀ i o, some ⟨i, o, none⟩ ∈ vs.map (·.1) → i < h.next ∧ μ i = c := fun i o hm => by
  obtain ⟨⟨a, cap, sz, l⟩, h1, e⟩ := List.mem_map.1 hm
  simp only at e
  subst e
  exact (H _ _ _ _ h1).at_
theorem bag_at {c : Nat} {vs : List (Option Addr × Nat × Nat × Nat)} (H : ∀ a cap sz n, (a, cap, sz, n) ∈ vs → ∃ l, l.length = n ∧ OM h μ c a cap sz l) : ∀ i o, some ⟨i, o, none⟩ ∈ vs.map (·.1) → i < h.next ∧ μ i = c := fun i o hm => by
  obtain ⟨⟨a, cap, sz, l⟩, h1, e⟩ := List.mem_map.1 hm
  simp only at e
  subst e
  obtain ⟨l, _, M⟩ := H _ _ _ _ h1
  exact M.at_
theorem Res.Holds.keep {c : Nat} {r : Res} (H : r.Holds h μ c) (hs : ¬ S c) (C : Chg S h μ h' μ') : r.Holds h' μ' c := by
  cases r with
  | var i l =>
    obtain ⟨a, b, V⟩ := H
    exact ⟨Nat.lt_of_lt_of_le a C.le, by rw [C.mark i a, b], V.keep a (by rw [b]; exact hs) C⟩
  | sl a cap sz l => exact OM.keep H hs C
  | map i es =>
    obtain ⟨a, b, V⟩ := H
    exact ⟨Nat.lt_of_lt_of_le a C.le, by rw [C.mark i a, b], by rw [C.obj i a (by rw [b]; exact hs), V]⟩
  | ro vs => exact fun a l hm => SM.keep (H a l hm) hs C
  | many vs => exact ⟨fun a cap sz l hm => OM.keep (H.1 a cap sz l hm) hs C, H.2.keep (many_at H.1) hs C⟩
  | bag vs => exact ⟨fun a cap sz n hm => let ⟨l, h1, h2⟩ := H.1 a cap sz n hm; ⟨l, h1, OM.keep h2 hs C⟩, H.2.keep (bag_at H.1) hs C⟩
  | ty i t => exact ⟨Nat.lt_of_lt_of_le H.1 C.le, by rw [C.ty i H.1]; exact H.2⟩

/-- Names of pieces. -/
abbrev Store := Nat → Option Res
def Store.upd (ρ : Store) (c : Nat) (r : Res) : Store := fun d => if d = c then some r else ρ d
theorem upd_same {ρ : Store} {c : Nat} {r : Res} : ρ.upd c r c = some r := by simp [Store.upd]
theorem upd_ne {ρ : Store} {c d : Nat} {r : Res} (h : d ≠ c) : ρ.upd c r d = ρ d := by simp [Store.upd, h]
theorem upd_upd {ρ : Store} {c : Nat} {r r' : Res} : (ρ.upd c r).upd c r' = ρ.upd c r' := by
  funext d; unfold Store.upd; split <;> rfl
theorem upd_self {ρ : Store} {c : Nat} {r : Res} (h : ρ c = some r) : ρ.upd c r = ρ := by
  funext d; unfold Store.upd; split
  · rename_i e; subst e; exact h.symm
  · rfl
/-- What is there is not what is new. -/
theorem name_ne {ρ : Store} {c d : Nat} {r : Res} (hc : ρ c = none) (hd : ρ d = some r) : d ≠ c := by
  rintro rfl; rw [hc] at hd; cases hd
theorem upd_old {ρ : Store} {c d : Nat} {r r' : Res} (hc : ρ c = none) (hd : ρ d = some r') : ρ.upd c r d = some r' := by
  rw [upd_ne (name_ne hc hd), hd]

structure Own (h : AW) (μ : Paint) (ρ : Store) : Prop where
  fin : ∃ N, ∀ c, N ≤ c → ρ c = none
  holds : ∀ c r, ρ c = some r → r.Holds h μ c

variable {ρ ρ' : Store} {c : Nat}
theorem Own.fresh (O : Own h μ ρ) : ∃ c, ρ c = none := by
  obtain ⟨N, hN⟩ := O.fin
  exact ⟨N, hN N (Nat.le_refl _)⟩
/-- A piece turned. -/
theorem Own.step (O : Own h μ ρ) {r : Res} (C : Chg (· = c) h μ h' μ') (H : r.Holds h' μ' c) : Own h' μ' (ρ.upd c r) := by
  refine ⟨?_, fun d r' hd => ?_⟩
  · obtain ⟨N, hN⟩ := O.fin
    refine ⟨Nat.max N (c + 1), fun d hd => ?_⟩
    have h1 : N ≤ d := Nat.le_trans (Nat.le_max_left _ _) hd
    have h2 : c + 1 ≤ d := Nat.le_trans (Nat.le_max_right _ _) hd
    rw [upd_ne (by omega)]; exact hN d h1
  · by_cases e : d = c
    · subst e; rw [upd_same] at hd; cases hd; exact H
    · rw [upd_ne e] at hd
      exact (O.holds d r' hd).keep e C
/-- Fewer names. -/
theorem Own.mono (O : Own h μ ρ) (hs : ∀ d r, ρ' d = some r → ρ d = some r) : Own h μ ρ' := by
  refine ⟨?_, fun d r hd => O.holds d r (hs d r hd)⟩
  obtain ⟨N, hN⟩ := O.fin
  refine ⟨N, fun d hd => ?_⟩
  cases hx : ρ' d with
  | none => rfl
  | some r => have := hs d r hx; rw [hN d hd] at this; cases this
theorem Own.drop {r : Res} (O : Own h μ (ρ.upd c r)) (hc : ρ c = none) : Own h μ ρ := O.mono fun d r' hd => upd_old hc hd
theorem Own.quiet (O : Own h μ ρ) (C : Chg (fun _ => False) h μ h' μ') : Own h' μ' ρ := ⟨O.fin, fun d r hd => (O.holds d r hd).keep (fun x => x) C⟩

/-! Blocks. -/
theorem Own.rd (O : Own h μ ρ) {i : Nat} {l : List Value} (hc : ρ c = some (.var i l)) (j : Nat) : h.rd i j = l[j]? := (O.holds _ _ hc).2.2.rd j
theorem o_rd (O : Own h μ ρ) {i j : Nat} {l : List Value} {v : Value} {f : Value → Prop} (hc : ρ c = some (.var i l)) (hv : l[j]? = some v) (H : f v) : oB (h.rd i j) f := by
  rw [O.rd hc, hv]; exact H
theorem o_wr (O : Own h μ ρ) {i j : Nat} {l : List Value} {v : Value} {f : AW → Prop} (hc : ρ c = some (.var i l)) (hj : j < l.length) (h1 : oneCell v = true)
    (H : ∀ h', Own h' μ (ρ.upd c (.var i (l.set j v))) → f h') : oB (h.wr i j v) f := by
  obtain ⟨a, b, V⟩ := O.holds _ _ hc
  obtain ⟨h', e, V', C, n⟩ := V.chg (S := (· = c)) hj h1 b
  rw [e]
  exact H h' (O.step C ⟨by rw [n]; exact a, b, V'⟩)
def setAll (l : List Value) (j : Nat) : List Value → List Value
  | [] => l
  | v :: vs => setAll (l.set j v) (j + 1) vs
theorem o_wrL {i : Nat} : ∀ (vs : List Value) {h : AW} {ρ : Store} {l : List Value} {j : Nat} {f : AW → Prop}, Own h μ ρ → ρ c = some (.var i l) → j + vs.length ≤ l.length → allOne vs = true →
    (∀ h', Own h' μ (ρ.upd c (.var i (setAll l j vs))) → f h') → oB (h.wrL i j vs) f
  | [], h, ρ, l, j, f, O, hc, _, _, H => H h (by rw [setAll, upd_self hc]; exact O)
  | v :: vs, h, ρ, l, j, f, O, hc, hj, ha, H => by
    simp only [allOne] at ha
    split at ha
    · rename_i h1
      simp only [List.length_cons] at hj
      obtain ⟨a, b, V⟩ := O.holds _ _ hc
      obtain ⟨h', e, V', C, n⟩ := V.chg (S := (· = c)) (j := j) (by omega) h1 b
      have O' := O.step (r := .var i (l.set j v)) C ⟨by rw [n]; exact a, b, V'⟩
      have := o_wrL vs (f := f) O' upd_same (j := j + 1) (by simp; omega) ha (fun h2 O2 => H h2 (by rw [upd_upd] at O2; exact O2))
      simp only [AW.wrL, e]
      exact this
    · cases ha
theorem o_addVar (O : Own h μ ρ) (c : Nat) {l : List Value} : Own (h.addVar l) (mkNew μ h.next c) (ρ.upd c (.var h.next l)) :=
  O.step addVar_chg ⟨Nat.lt_succ_self _, mkNew_new (Nat.le_refl _), addVar_at⟩
/-! Slices. -/
theorem Own.sl (O : Own h μ ρ) {a : Option Addr} {cap sz : Nat} {l : List Value} (hc : ρ c = some (.sl a cap sz l)) : Sl h a l := OM.sl (O.holds _ _ hc)
theorem Own.ro (O : Own h μ ρ) {a : Option Addr} {l : List Value} {vs : List (Option Addr × List Value)} (hc : ρ c = some (.ro vs)) (hm : (a, l) ∈ vs) : Sl h a l := (O.holds _ _ hc a l hm).sl
/-- An element's place. -/
theorem Sl.ix {a : Option Addr} {l : List Value} (X : Sl h a l) {z : Int} {j n sz : Nat} (hz : z = j) (hn : l.length = n * sz) (h0 : 0 < sz) (hj : j < n) {f : Nat → Nat → Nat → Prop}
    (H : ∀ i off, a = some ⟨i, off, none⟩ → (∀ k, k < sz → h.rd i (off + j * sz + k) = l[j * sz + k]?) → f i off j) : aP a fun i off => oB (natIdx z n) fun j => f i off j := by
  subst hz
  have hlt : ∀ k, k < sz → j * sz + k < l.length := fun k hk => by
    have : (j + 1) * sz ≤ n * sz := Nat.mul_le_mul_right _ hj
    rw [Nat.add_mul, Nat.one_mul] at this; omega
  rcases X with ⟨rfl, rfl⟩ | ⟨i, off, rfl, hr⟩
  · have := hlt 0 h0; simp at this
  · simp only [aP_some]
    rw [natIdx_eq hj]
    exact H i off rfl fun k hk => by rw [Nat.add_assoc]; exact hr _ (hlt k hk)
/-- An element of one cell. -/
theorem Sl.i1 {a : Option Addr} {l : List Value} (X : Sl h a l) {z : Int} {j n : Nat} {v : Value} (hz : z = j) (hn : n = l.length) (hv : l[j]? = some v) {f : Value → Prop} (H : f v) : aP a fun i off => oB (natIdx z n) fun j => oB (h.rd i (off + j * 1)) f := X.at1 hz hn hv H
end Go.Abs
end

section
/- Lists of blocks of equal length; small words on strings and slices. -/
namespace Go.Abs

section
variable {α β : Type} {f : α → List β} {sz : Nat}
end

abbrev Str := ByteArray
abbrev e0 : Str := ⟨#[]⟩
abbrev strs (l : List Str) : List Value := l.map Value.string
theorem wrapS {j : Nat} (h : j < 4611686018427387904) : IntKind.wrap .i64 ((j : Int) + 1) = ((j + 1 : Nat) : Int) := by
  have := wrap_small (n := (j : Int) + 1) (by omega) (by omega)
  rw [this]; omega
theorem ltI {j n : Nat} (h : j < n) : decide ((j : Int) < (n : Int)) = true := by simp; omega
theorem geI {j n : Nat} (h : n ≤ j) : decide ((j : Int) < (n : Int)) = false := by simp; omega
def memB (s : Str) (x : List Str) : Bool := x.any fun t => bEq s t
theorem memB_iff {s : Str} {x : List Str} : memB s x = true ↔ s ∈ x := by
  unfold memB
  rw [List.any_eq_true]
  exact ⟨fun ⟨t, ht, e⟩ => by rw [bEq_iff.1 e]; exact ht, fun h => ⟨s, h, bEq_self⟩⟩
instance decMemStr (s : ByteArray) (x : List ByteArray) : Decidable (s ∈ x) := decidable_of_iff (memB s x = true) memB_iff
end Go.Abs
end

section
/- Some pieces under one's eyes: what stands where, and what was not touched. -/
namespace Go.Abs
variable {h h' : AW} {μ μ' : Paint} {P : Program} {ρ0 ρ ρ' : Store} {ns : List Nat} {rs : List Res} {c : Nat}

/-- What is not of these names stays. -/
def Fra (ns : List Nat) (ρ ρ' : Store) : Prop := ∀ c r, c ∉ ns → ρ c = some r → ρ' c = some r
theorem Fra.refl : Fra ns ρ ρ := fun _ _ _ h => h
theorem Fra.trans {ρ'' : Store} (a : Fra ns ρ ρ') (b : Fra ns ρ' ρ'') : Fra ns ρ ρ'' := fun c r hn hc => b c r hn (a c r hn hc)
theorem Fra.mono {ms : List Nat} (a : Fra ns ρ ρ') (hs : ∀ c, c ∈ ns → c ∈ ms) : Fra ms ρ ρ' := fun c r hn hc => a c r (fun x => hn (hs c x)) hc
theorem Fra.upd {r : Res} (a : Fra ns ρ ρ') (hc : c ∈ ns) : Fra ns ρ (ρ'.upd c r) := fun d r' hn hd => by
  rw [upd_ne (fun e => hn (by rw [e]; exact hc))]; exact a d r' hn hd
theorem Fra.new {r : Res} (a : Fra ns ρ ρ') (hc : ρ' c = none) : Fra ns ρ (ρ'.upd c r) := fun d r' hn hd => upd_old hc (a d r' hn hd)
/-- What only names of ns1 turned, seen with more names. -/
theorem Fra.call {ns1 : List Nat} {ρ'' : Store} (a : Fra ns ρ ρ') (b : Fra ns1 ρ' ρ'') (hs : ∀ c, c ∈ ns1 → c ∈ ns ∨ ρ c = none) : Fra ns ρ ρ'' := fun c r hn hc =>
  b c r (fun x => by rcases hs c x with y | y
                     · exact hn y
                     · rw [hc] at y; cases y) (a c r hn hc)

structure Pcs (ρ0 ρ : Store) (ns : List Nat) (rs : List Res) : Prop where
  nodup : ns.Nodup
  len : ns.length = rs.length
  at_ : ∀ (i : Nat) (c : Nat) (r : Res), ns[i]? = some c → rs[i]? = some r → ρ c = some r
  fra : Fra ns ρ0 ρ

theorem Pcs.init (hd : ns.Nodup) (hl : ns.length = rs.length) (ha : ∀ (i : Nat) (c : Nat) (r : Res), ns[i]? = some c → rs[i]? = some r → ρ c = some r) : Pcs ρ ρ ns rs := ⟨hd, hl, ha, Fra.refl⟩
theorem Pcs.get (W : Pcs ρ0 ρ ns rs) (i : Nat) {r : Res} (hr : rs[i]? = some r) : ∃ c, ns[i]? = some c ∧ ρ c = some r := by
  have hi : i < ns.length := by rw [W.len]; exact (List.getElem?_eq_some_iff.1 hr).1
  exact ⟨ns[i], List.getElem?_eq_getElem hi, W.at_ i _ _ (List.getElem?_eq_getElem hi) hr⟩
theorem Pcs.set (W : Pcs ρ0 ρ ns rs) (i : Nat) (hc : ns[i]? = some c) (r : Res) : Pcs ρ0 (ρ.upd c r) ns (rs.set i r) := by
  refine ⟨W.nodup, by simp [W.len], fun j d r' hd hr => ?_, W.fra.upd (List.mem_of_getElem? hc)⟩
  rw [List.getElem?_set] at hr
  split at hr
  · rename_i e; subst e
    rw [hc] at hd; cases hd
    split at hr
    · cases hr; exact upd_same
    · cases hr
  · rename_i e
    have hi := (List.getElem?_eq_some_iff.1 hc).1
    have hj := (List.getElem?_eq_some_iff.1 hd).1
    rw [upd_ne, W.at_ j d r' hd hr]
    intro e2; subst e2
    have := (List.getElem_inj (h₀ := hj) (h₁ := hi) W.nodup).1 (by rw [(List.getElem?_eq_some_iff.1 hc).2, (List.getElem?_eq_some_iff.1 hd).2])
    exact e this.symm
/-- A new name that nobody asks for. -/
theorem Pcs.tmp (W : Pcs ρ0 ρ ns rs) (hc : ρ c = none) (r : Res) : Pcs ρ0 (ρ.upd c r) ns rs :=
  ⟨W.nodup, W.len, fun j d r' hd hr => upd_old hc (W.at_ j d r' hd hr), W.fra.new hc⟩
theorem Pcs.notin (W : Pcs ρ0 ρ ns rs) (hc : ρ c = none) : c ∉ ns := fun hm => by
  obtain ⟨i, hi⟩ := List.getElem?_of_mem hm
  have hlt : i < rs.length := by rw [← W.len]; exact (List.getElem?_eq_some_iff.1 hi).1
  have := W.at_ i c _ hi (List.getElem?_eq_getElem hlt)
  rw [hc] at this; cases this
theorem Pcs.not0 (W : Pcs ρ0 ρ ns rs) (hc : ρ c = none) : ρ0 c = none := by
  cases hx : ρ0 c with
  | none => rfl
  | some r => rw [W.fra c r (W.notin hc) hx] at hc; cases hc
/-- A new name under one's eyes too. -/
theorem Pcs.new (W : Pcs ρ0 ρ ns rs) (hc : ρ c = none) (r : Res) : Pcs ρ0 (ρ.upd c r) (c :: ns) (r :: rs) := by
  refine ⟨List.nodup_cons.2 ⟨W.notin hc, W.nodup⟩, by simp [W.len], fun j d r' hd hr => ?_, fun d r' hn hd => ?_⟩
  · cases j with
    | zero => simp at hd hr; subst hd hr; exact upd_same
    | succ j => simp at hd hr; exact upd_old hc (W.at_ j d r' hd hr)
  · exact upd_old hc (W.fra d r' (fun x => hn (List.mem_cons_of_mem _ x)) hd)

theorem Pcs.tail {r : Res} (W : Pcs ρ0 ρ (c :: ns) (r :: rs)) (hc : ρ0 c = none) : Pcs ρ0 ρ ns rs :=
  ⟨(List.nodup_cons.1 W.nodup).2, by have := W.len; simpa using this, fun i d r' hd hr => W.at_ (i + 1) d r' (by simpa using hd) (by simpa using hr), fun d r' hn hd => W.fra d r' (fun x => by
    rcases List.mem_cons.1 x with rfl | y
    · rw [hc] at hd; cases hd
    · exact hn y) hd⟩
/-- A new name, behind the others. -/
theorem Pcs.snoc (W : Pcs ρ0 ρ ns rs) (hc : ρ c = none) (r : Res) : Pcs ρ0 (ρ.upd c r) (ns ++ [c]) (rs ++ [r]) := by
  refine ⟨?_, by simp [W.len], fun j d r' hd hr => ?_, fun d r' hn hd => ?_⟩
  · rw [List.nodup_append]
    refine ⟨W.nodup, by simp, fun a ha b hb => ?_⟩
    simp at hb; subst hb
    rintro rfl; exact W.notin hc ha
  · rcases Nat.lt_or_ge j ns.length with x | x
    · rw [List.getElem?_append_left x] at hd
      rw [List.getElem?_append_left (by rw [← W.len]; exact x)] at hr
      exact upd_old hc (W.at_ j d r' hd hr)
    · rw [List.getElem?_append_right x] at hd
      rw [List.getElem?_append_right (by rw [← W.len]; exact x), ← W.len] at hr
      cases hj : j - ns.length with
      | zero => rw [hj] at hd hr; simp at hd hr; subst hd hr; exact upd_same
      | succ k => rw [hj] at hd; simp at hd
  · exact upd_old hc (W.fra d r' (fun x => hn (List.mem_append_left _ x)) hd)
/-- Whose names: the old ones, and new ones. -/
def FrN (ns : List Nat) (ρ : Store) (ns' : List Nat) (ρ' : Store) : Prop := Fra ns ρ ρ' ∧ (∀ c, c ∈ ns' → c ∈ ns ∨ ρ c = none) ∧ ∀ c, c ∈ ns → c ∈ ns'
theorem FrN.refl : FrN ns ρ ns ρ := ⟨Fra.refl, fun _ h => .inl h, fun _ h => h⟩
theorem FrN.of (F : Fra ns ρ ρ') : FrN ns ρ ns ρ' := ⟨F, fun _ h => .inl h, fun _ h => h⟩
theorem FrN.trans {ns' ns'' : List Nat} {ρ'' : Store} (a : FrN ns ρ ns' ρ') (b : FrN ns' ρ' ns'' ρ'') : FrN ns ρ ns'' ρ'' := by
  refine ⟨fun c r hn hc => b.1 c r (fun x => ?_) (a.1 c r hn hc), fun c hc => ?_, fun c hc => b.2.2 c (a.2.2 c hc)⟩
  · rcases a.2.1 c x with y | y
    · exact hn y
    · rw [hc] at y; cases y
  · rcases b.2.1 c hc with x | x
    · exact a.2.1 c x
    · by_cases hn : c ∈ ns
      · exact .inl hn
      · refine .inr ?_
        cases hx : ρ c with
        | none => rfl
        | some r => rw [a.1 c r hn hx] at x; cases x
/-- What is nobody's behind a call was nobody's. -/
theorem FrN.none {ns' : List Nat} (a : FrN ns ρ ns' ρ') {c : Nat} (hn : c ∉ ns') (hc : ρ' c = none) : ρ c = none := by
  cases hz : ρ c with
  | none => rfl
  | some r => rw [a.1 c r (fun x => hn (a.2.2 c x)) hz] at hc; cases hc
theorem Pcs.self (W : Pcs ρ0 ρ ns rs) : Pcs ρ ρ ns rs := ⟨W.nodup, W.len, W.at_, Fra.refl⟩
theorem Pcs.to {rs' : List Res} (W : Pcs ρ0 ρ ns rs) (e : rs = rs') : Pcs ρ ρ ns rs' := e ▸ W.self
theorem Pcs.names {ns' : List Nat} (W : Pcs ρ0 ρ ns rs) (e : ns = ns') : Pcs ρ0 ρ ns' rs := e ▸ W
/-- Others' turns. -/
theorem Pcs.keep {ms : List Nat} (W : Pcs ρ0 ρ ns rs) (F : Fra ms ρ ρ') (hd : ∀ c, c ∈ ms → c ∉ ns) : Pcs ρ' ρ' ns rs :=
  ⟨W.nodup, W.len, fun i c r hc hr => F c r (fun x => hd c x (List.mem_of_getElem? hc)) (W.at_ i c r hc hr), Fra.refl⟩
/-- What a call made anew. -/
theorem Pcs.adopt {r : Res} (W : Pcs ρ0 ρ ns rs) (V : Pcs ρ ρ' [c] [r]) (hc : ρ c = none) : Pcs ρ0 ρ' (c :: ns) (r :: rs) := by
  have hn := W.notin hc
  have h0 := W.not0 hc
  refine ⟨List.nodup_cons.2 ⟨hn, W.nodup⟩, by simp [W.len], fun i d s hd hs => ?_, fun d s hd hs => ?_⟩
  · cases i with
    | zero => exact V.at_ 0 d s (by simpa using hd) (by simpa using hs)
    | succ i =>
      simp at hd hs
      refine V.fra d s (fun hm => hn ?_) (W.at_ i d s hd hs)
      simp at hm; subst hm; exact List.mem_of_getElem? hd
  · simp only [List.mem_cons, not_or] at hd
    exact V.fra d s (fun hm => by simp at hm; exact hd.1 hm) (W.fra d s hd.2 hs)
/-- What a call turned. -/
theorem Pcs.put {r : Res} {i : Nat} (W : Pcs ρ0 ρ ns rs) (hc : ns[i]? = some c) (V : Pcs ρ ρ' [c] [r]) : Pcs ρ0 ρ' ns (rs.set i r) := by
  refine ⟨W.nodup, by simp [W.len], fun j d s hd hs => ?_, fun d s hd hs => V.fra d s (fun hm => hd (by simp at hm; subst hm; exact List.mem_of_getElem? hc)) (W.fra d s hd hs)⟩
  rw [List.getElem?_set] at hs
  have hi := List.getElem?_eq_some_iff.1 hc
  have hj := List.getElem?_eq_some_iff.1 hd
  split at hs
  · rename_i e; subst e
    rw [hc] at hd; cases hd
    split at hs
    · cases hs; exact V.at_ 0 _ _ rfl rfl
    · cases hs
  · rename_i e
    refine V.fra d s (fun hm => ?_) (W.at_ j d s hd hs)
    simp at hm; subst hm
    exact e ((List.getElem_inj (h₀ := hi.1) (h₁ := hj.1) W.nodup).1 (by rw [hi.2, hj.2]))
/-- A part of a slice. -/
def SubOf (a0 : Option Addr) (l0 : List Value) (a : Option Addr) (l : List Value) : Prop := ∃ k n, shO a0 k = some a ∧ l = (l0.drop k).take n
theorem SubOf.self {a : Option Addr} {l : List Value} (h : ∀ b, a = some b → b.spot = none) : SubOf a l a l := by
  refine ⟨0, l.length, ?_, by simp⟩
  cases a with
  | none => rfl
  | some b =>
    obtain ⟨i, off, s⟩ := b
    have := h _ rfl
    simp only at this
    subst this; rfl
theorem Sl.sub {a0 a : Option Addr} {l0 l : List Value} (X : Sl h a0 l0) (S : SubOf a0 l0 a l) : Sl h a l := by
  obtain ⟨k, n, e, rfl⟩ := S
  rcases X with ⟨rfl, rfl⟩ | ⟨i, off, rfl, hr⟩
  · simp only [shO, Option.some.injEq] at e; subst e
    exact .inl ⟨rfl, by simp⟩
  · simp only [shO, Option.some.injEq] at e; subst e
    refine .inr ⟨i, off + k, rfl, fun j hj => ?_⟩
    simp only [List.length_take, List.length_drop] at hj
    rw [List.getElem?_take_of_lt (by omega), List.getElem?_drop, Nat.add_assoc]
    exact hr _ (by omega)
/-- A slice that may be read, whatever becomes of the names ns. -/
def Rd (ρ : Store) (ns : List Nat) (a : Option Addr) (l : List Value) : Prop :=
  ∃ c, c ∉ ns ∧ ∃ r, ρ c = some r ∧ ∃ a0 l0, SubOf a0 l0 a l ∧ ((∃ cap sz, r = .sl a0 cap sz l0) ∨ (∃ vs, r = .ro vs ∧ (a0, l0) ∈ vs) ∨ (∃ vs cap sz, r = .many vs ∧ (a0, cap, sz, l0) ∈ vs))
theorem Own.spot (O : Own h μ ρ) {a : Option Addr} {cap sz : Nat} {l : List Value} (hc : ρ c = some (.sl a cap sz l)) : ∀ b, a = some b → b.spot = none := by
  have M : OM h μ c a cap sz l := O.holds _ _ hc
  rintro b rfl
  rcases M.mem with ⟨e, _⟩ | ⟨i, off, e, _⟩
  · cases e
  · cases e; rfl
theorem Rd.of_sl (O : Own h μ ρ) {a : Option Addr} {cap sz : Nat} {l : List Value} (hn : c ∉ ns) (hc : ρ c = some (.sl a cap sz l)) : Rd ρ ns a l :=
  ⟨c, hn, _, hc, a, l, SubOf.self (O.spot hc), .inl ⟨cap, sz, rfl⟩⟩
theorem Rd.sl {a : Option Addr} {l : List Value} (R : Rd ρ ns a l) (O : Own h μ ρ) : Sl h a l := by
  obtain ⟨c, _, r, hc, a0, l0, S, ⟨cap, sz, rfl⟩ | ⟨vs, rfl, hm⟩ | ⟨vs, cap, sz, rfl, hm⟩⟩ := R
  · exact (O.sl hc).sub S
  · exact (O.ro hc hm).sub S
  · have M : OM _ _ c a0 cap sz l0 := (O.holds _ _ hc).1 _ _ _ _ hm
    exact M.sl.sub S
theorem Rd.of_many (O : Own h μ ρ) {a : Option Addr} {cap sz : Nat} {l : List Value} {vs : List (Option Addr × Nat × Nat × List Value)} (hn : c ∉ ns) (hc : ρ c = some (.many vs)) (hm : (a, cap, sz, l) ∈ vs) : Rd ρ ns a l := by
  have M : OM h μ c a cap sz l := (O.holds _ _ hc).1 _ _ _ _ hm
  refine ⟨c, hn, _, hc, a, l, SubOf.self ?_, .inr (.inr ⟨vs, cap, sz, rfl, hm⟩)⟩
  rintro b rfl
  rcases M.mem with ⟨e, _⟩ | ⟨i, off, e, _⟩
  · cases e
  · cases e; rfl
theorem Rd.keep {a : Option Addr} {l : List Value} (R : Rd ρ ns a l) (F : Fra ns ρ ρ') : Rd ρ' ns a l := by
  obtain ⟨c, hn, r, hc, rest⟩ := R
  exact ⟨c, hn, r, F c _ hn hc, rest⟩
theorem Rd.add {a : Option Addr} {l : List Value} (R : Rd ρ ns a l) (hc : ρ c = none) : Rd ρ (c :: ns) a l := by
  obtain ⟨d, hn, r, hd, rest⟩ := R
  refine ⟨d, fun hm => ?_, r, hd, rest⟩
  rcases List.mem_cons.1 hm with x | x
  · subst x; rw [hc] at hd; cases hd
  · exact hn x
theorem Rd.fresh {a : Option Addr} {l : List Value} (R : Rd ρ [] a l) (F : Fra [] ρ ρ') (hf : ∀ c, c ∈ ns → ρ c = none) : Rd ρ' ns a l := by
  obtain ⟨d, hn, r, hd, rest⟩ := R
  exact ⟨d, fun hm => (by rw [hf d hm] at hd; cases hd), r, F d r hn hd, rest⟩
theorem Rd.mono {ms : List Nat} {a : Option Addr} {l : List Value} (R : Rd ρ ns a l) (h : ∀ c, c ∈ ms → c ∈ ns) : Rd ρ ms a l := by
  obtain ⟨c, hn, x⟩ := R
  exact ⟨c, fun y => hn (h c y), x⟩
/-! Steps. -/
theorem w_rd (O : Own h μ ρ) (W : Pcs ρ0 ρ ns rs) (i : Nat) {p j : Nat} {l : List Value} {v : Value} {f : Value → Prop} (hr : rs[i]? = some (.var p l)) (hv : l[j]? = some v) (H : f v) : oB (h.rd p j) f := by
  obtain ⟨c, _, hc⟩ := W.get i hr
  exact o_rd O hc hv H
theorem w_wr (O : Own h μ ρ) (W : Pcs ρ0 ρ ns rs) (i : Nat) {p j : Nat} {l : List Value} {v : Value} {f : AW → Prop} (hr : rs[i]? = some (.var p l)) (hj : j < l.length) (h1 : oneCell v = true)
    (H : ∀ h' ρ', Own h' μ ρ' → Pcs ρ0 ρ' ns (rs.set i (.var p (l.set j v))) → f h') : oB (h.wr p j v) f := by
  obtain ⟨c, hn, hc⟩ := W.get i hr
  exact o_wr O hc hj h1 fun h' O' => H h' _ O' (W.set i hn _)
theorem w_wrL (O : Own h μ ρ) (W : Pcs ρ0 ρ ns rs) (i : Nat) {p j : Nat} {l vs : List Value} {f : AW → Prop} (hr : rs[i]? = some (.var p l)) (hj : j + vs.length ≤ l.length) (h1 : allOne vs = true)
    (H : ∀ h' ρ', Own h' μ ρ' → Pcs ρ0 ρ' ns (rs.set i (.var p (setAll l j vs))) → f h') : oB (h.wrL p j vs) f := by
  obtain ⟨c, hn, hc⟩ := W.get i hr
  exact o_wrL vs O hc hj h1 fun h' O' => H h' _ O' (W.set i hn _)
/-- A new block. -/
theorem w_new (O : Own h μ ρ) (W : Pcs ρ0 ρ ns rs) (l : List Value) : ∃ μ' ρ' c, Own (h.addVar l) μ' ρ' ∧ Pcs ρ0 ρ' (c :: ns) (.var h.next l :: rs) ∧ ρ0 c = none := by
  obtain ⟨c, hc⟩ := O.fresh
  exact ⟨_, _, c, o_addVar O c, W.new hc _, W.not0 hc⟩
/-- From an element on. -/
theorem Sl.from {a : Option Addr} {l : List Value} (X : Sl h a l) (k : Nat) {f : Option Addr → Prop} (H : ∀ a', Sl h a' (l.drop k) → f a') : oB (shO a k) f := by
  rcases X with ⟨rfl, rfl⟩ | ⟨i, off, rfl, hr⟩
  · exact H none (.inl ⟨rfl, by simp⟩)
  · refine H _ (.inr ⟨i, off + k, rfl, fun j hj => ?_⟩)
    rw [List.length_drop] at hj
    rw [List.getElem?_drop, show off + k + j = off + (k + j) from by omega]
    exact hr _ (by omega)
theorem Sl.take {a : Option Addr} {l : List Value} (X : Sl h a l) (k : Nat) : Sl h a (l.take k) := by
  rcases X with ⟨rfl, rfl⟩ | ⟨i, off, rfl, hr⟩
  · exact .inl ⟨rfl, by simp⟩
  · refine .inr ⟨i, off, rfl, fun j hj => ?_⟩
    rw [List.length_take] at hj
    rw [hr j (by omega), List.getElem?_take_of_lt (by omega)]
end Go.Abs
end

section
/- Statements with bodies, as lists of lists: no Go in it; and how they lie in memory. -/
namespace Go.Abs.Fo
open Go.Abs

/-- A list of statements: each has a kind, words, a number and a body. -/
inductive F where
  | nil
  | cons (op : Int) (args : List Str) (n : Int) (body rest : F)
namespace F
def len : F → Nat
  | nil => 0
  | cons _ _ _ _ r => r.len + 1
def app : F → F → F
  | nil, g => g
  | cons o a n b r, g => cons o a n b (r.app g)
def eqB : F → F → Bool
  | nil, nil => true
  | cons o a n b r, cons o' a' n' b' r' => decide (o = o') && decide (n = n') && decide (a = a') && eqB b b' && eqB r r'
  | _, _ => false
theorem app_len : ∀ (f g : F), (f.app g).len = f.len + g.len
  | nil, g => by simp [app, len]
  | cons _ _ _ _ r, g => by simp only [app, len, app_len r g]; omega
theorem app_nil : ∀ f : F, f.app nil = f
  | nil => rfl
  | cons o a n b r => by rw [app, app_nil r]
theorem app_assoc : ∀ f g k : F, (f.app g).app k = f.app (g.app k)
  | nil, _, _ => rfl
  | cons o a n b r, g, k => by rw [app, app, app, app_assoc r]
theorem eqB_len : ∀ {f g : F}, f.len ≠ g.len → eqB f g = false
  | nil, nil, h => absurd rfl h
  | nil, cons .., _ => rfl
  | cons .., nil, _ => rfl
  | cons o a n b r, cons o' a' n' b' r', h => by
    have : eqB r r' = false := eqB_len fun e => h (by simp [len, e])
    simp [eqB, this]
end F
/-- What may be read: a slice of cells at an address. -/
def Vw (ρ : Store) (ns : List Nat) (a : Option Addr) (l : List Value) : Prop := (a = none ∧ l = []) ∨ Rd ρ ns a l
variable {h : AW} {μ : Paint} {ρ ρ' : Store} {ns : List Nat}
theorem Vw.sl {a : Option Addr} {l : List Value} (X : Vw ρ ns a l) (O : Own h μ ρ) : Sl h a l := X.elim (fun x => .inl x) fun x => x.sl O
theorem Vw.mono {ms : List Nat} {a : Option Addr} {l : List Value} (X : Vw ρ ns a l) (hs : ∀ c, c ∈ ms → c ∈ ns) : Vw ρ ms a l := X.imp id fun x => x.mono hs
theorem Vw.keep {a : Option Addr} {l : List Value} (X : Vw ρ ns a l) (F : Fra ns ρ ρ') : Vw ρ' ns a l := X.imp id fun x => x.keep F

/-- How a list of statements lies: its cells, and what they point to. -/
def Lies (V : Option Addr → List Value → Prop) : F → List Value → Prop
  | .nil, cells => cells = []
  | .cons op args n body rest, cells => ∃ aa ac ba bc bcells rcells, cells = [.int .i64 op, .slice aa args.length ac, .int .i64 n, .slice ba body.len bc] ++ rcells ∧ V aa (strs args) ∧ V ba bcells ∧ Lies V body bcells ∧ Lies V rest rcells
theorem Lies.mono {V V' : Option Addr → List Value → Prop} (hV : ∀ a l, V a l → V' a l) : ∀ {f : F} {cells : List Value}, Lies V f cells → Lies V' f cells
  | .nil, _, h => h
  | .cons _ _ _ _ _, _, ⟨aa, ac, ba, bc, bcells, rcells, h1, h2, h3, h4, h5⟩ => ⟨aa, ac, ba, bc, bcells, rcells, h1, hV _ _ h2, hV _ _ h3, Lies.mono hV h4, Lies.mono hV h5⟩
theorem Lies.len {V : Option Addr → List Value → Prop} : ∀ {f : F} {cells : List Value}, Lies V f cells → cells.length = f.len * 4
  | .nil, _, h => by
    have h : _ = [] := h
    rw [h]; simp [F.len]
  | .cons _ _ _ _ _, _, ⟨aa, ac, ba, bc, bcells, rcells, h1, h2, h3, h4, h5⟩ => by
    rw [h1]
    have := Lies.len h5
    simp [F.len, this]; omega
theorem Lies.app {V : Option Addr → List Value → Prop} : ∀ {f g : F} {c1 c2 : List Value}, Lies V f c1 → Lies V g c2 → Lies V (f.app g) (c1 ++ c2)
  | .nil, g, c1, c2, h, k => by
    have h : c1 = [] := h
    rw [h]; exact k
  | .cons _ _ _ _ _, g, c1, c2, ⟨aa, ac, ba, bc, bcells, rcells, h1, h2, h3, h4, h5⟩, k => ⟨aa, ac, ba, bc, bcells, rcells ++ c2, by rw [h1]; simp, h2, h3, h4, Lies.app h5 k⟩
theorem lies_split {V : Option Addr → List Value → Prop} : ∀ {f g : F} {c : List Value}, Lies V (f.app g) c → ∃ c1 c2, c = c1 ++ c2 ∧ Lies V f c1 ∧ Lies V g c2
  | .nil, g, c, h => ⟨[], c, rfl, rfl, h⟩
  | .cons _ _ _ _ _, g, c, ⟨aa, ac, ba, bc, bcells, rcells, h1, h2, h3, h4, h5⟩ => by
    obtain ⟨c1, c2, e, k1, k2⟩ := lies_split h5
    exact ⟨_ ++ c1, c2, by rw [h1, e, List.append_assoc], ⟨aa, ac, ba, bc, bcells, c1, rfl, h2, h3, h4, k1⟩, k2⟩
/-- The statement at a place. -/
theorem lies_at {V : Option Addr → List Value → Prop} {pre rest body : F} {op n : Int} {args : List Str} {c : List Value} (L : Lies V (pre.app (.cons op args n body rest)) c) :
    ∃ aa ac ba bc bcells, V aa (strs args) ∧ V ba bcells ∧ Lies V body bcells ∧
      c[pre.len * 4]? = some (.int .i64 op) ∧ c[pre.len * 4 + 1]? = some (.slice aa args.length ac) ∧ c[pre.len * 4 + 2]? = some (.int .i64 n) ∧ c[pre.len * 4 + 3]? = some (.slice ba body.len bc) := by
  obtain ⟨c1, c2, rfl, L1, aa, ac, ba, bc, bcells, rcells, rfl, h2, h3, h4, h5⟩ := lies_split L
  have hl := L1.len
  refine ⟨aa, ac, ba, bc, bcells, h2, h3, h4, ?_, ?_, ?_, ?_⟩
  · rw [List.getElem?_append_right (by omega), hl, Nat.sub_self]; rfl
  · rw [List.getElem?_append_right (by omega), hl, show pre.len * 4 + 1 - pre.len * 4 = 1 from by omega]; rfl
  · rw [List.getElem?_append_right (by omega), hl, show pre.len * 4 + 2 - pre.len * 4 = 2 from by omega]; rfl
  · rw [List.getElem?_append_right (by omega), hl, show pre.len * 4 + 3 - pre.len * 4 = 3 from by omega]; rfl
namespace F
/-- One statement behind the others. -/
def snoc (f : F) (op : Int) (args : List Str) (n : Int) (body : F) : F := f.app (.cons op args n body .nil)
theorem snoc_app (f : F) (op : Int) (args : List Str) (n : Int) (body rest : F) : (f.snoc op args n body).app rest = f.app (.cons op args n body rest) := by
  unfold snoc; rw [app_assoc]; rfl
theorem snoc_len (f : F) (op : Int) (args : List Str) (n : Int) (body : F) : (f.snoc op args n body).len = f.len + 1 := by
  unfold snoc; rw [app_len]; rfl
end F
end Go.Abs.Fo
end

section
/- Actions: lines of words as statements, and what is said of them; no Go in it. -/
namespace Go.Abs.Fo
open Go.Abs

abbrev Line := List Str
abbrev wEnd : Str := ⟨#[101, 110, 100]⟩
abbrev wNeed : Str := ⟨#[110, 101, 101, 100]⟩
abbrev wCat : Str := ⟨#[99, 97, 116]⟩
abbrev wText : Str := ⟨#[116, 101, 120, 116]⟩
abbrev wUpper : Str := ⟨#[117, 112, 112, 101, 114]⟩
abbrev wSort : Str := ⟨#[115, 111, 114, 116]⟩
abbrev wUniq : Str := ⟨#[117, 110, 105, 113]⟩
abbrev wCount : Str := ⟨#[99, 111, 117, 110, 116]⟩
abbrev wWrite : Str := ⟨#[119, 114, 105, 116, 101]⟩
abbrev wFail : Str := ⟨#[102, 97, 105, 108]⟩
abbrev wRepeat : Str := ⟨#[114, 101, 112, 101, 97, 116]⟩
abbrev wEach : Str := ⟨#[101, 97, 99, 104]⟩
abbrev wWhen : Str := ⟨#[119, 104, 101, 110]⟩
abbrev kinds : List Str := [e0, wNeed, wCat, wText, wUpper, wSort, wUniq, wCount, wWrite, wFail, wRepeat, wEach, wWhen]
/-- A kind's first word. -/
def wordM (op : Int) : Str := match op with
  | .ofNat n => (kinds[n]?).getD e0
  | .negSucc _ => e0
/-- The kind of a first word; 0: none. -/
def opOf (w : Str) : Nat :=
  if w = wNeed then 1 else if w = wCat then 2 else if w = wText then 3 else if w = wUpper then 4 else if w = wSort then 5 else if w = wUniq then 6
  else if w = wCount then 7 else if w = wWrite then 8 else if w = wFail then 9 else if w = wRepeat then 10 else if w = wEach then 11 else if w = wWhen then 12 else 0
/-- How many words a kind has; -1: any number. -/
def argsM (op : Int) : Int := if op = 1 ∨ op = 2 ∨ op = 8 ∨ op = 11 then 1 else if op = 3 ∨ op = 9 then -1 else if op = 12 then 2 else 0
def fitsM (op : Int) (n : Nat) : Bool := decide (argsM op < 0) || decide (argsM op = n)
def opensM (op : Int) : Bool := decide (10 ≤ op) && decide (op ≤ 12)
/-- A number in decimal digits. -/
def digB (n : Nat) : UInt8 := UInt8.ofNat (48 + n % 10)
def digits : Nat → Nat → List UInt8
  | 0, n => [digB n]
  | k + 1, n => if n ≥ 10 then digits k (n / 10) ++ [digB n] else [digB n]
def digS (n : Nat) : Str := ⟨⟨digits 20 n⟩⟩
/-- The number that digits say. -/
def numL : List UInt8 → Nat → Option Nat
  | [], n => some n
  | b :: l, n => if b.toNat < 48 ∨ 57 < b.toNat then none else numL l (10 * n + (b.toNat - 48))
def numM (s : Str) : Int :=
  if s.size < 1 ∨ 4 < s.size then -1 else
  match numL s.data.toList 0 with
  | none => -1
  | some n => if n > 1000 ∨ digS n ≠ s then -1 else n
/-- A line as a statement. -/
structure X where
  op : Int
  args : List Str
  n : Int
  ok : Bool
  deriving DecidableEq
def stmtM : Line → X
  | [] => ⟨0, [], 0, false⟩
  | w :: args =>
    if opOf w = 10 then
      match args with
      | [s] => ⟨10, [], numM s, decide (numM s ≥ 0)⟩
      | _ => ⟨0, [], 0, false⟩
    else ⟨opOf w, args, 0, decide (0 < opOf w) && fitsM (opOf w) args.length⟩
/-- The first error of lines. -/
def chk : List Line → Nat → Nat → Nat → Int × Int
  | [], i, o, _ => if o > 0 then (131, i) else (0, 0)
  | l :: r, i, o, m =>
    if l = [wEnd] then (if o = 0 then (131, i) else chk r (i + 1) (o - 1) m) else
    let x := stmtM l
    if x.ok = false then (130, i)
    else if m + 1 > 256 then (3, i)
    else if opensM x.op = true then (if o = 8 then (132, i) else chk r (i + 1) (o + 1) (m + 1))
    else chk r (i + 1) o (m + 1)
end Go.Abs.Fo
end

section
/- Readers: what is read stays; statements in memory. -/
namespace Go.Abs
variable {h h' : AW} {μ μ' : Paint} {P : Program} {ρ0 ρ ρ' : Store} {ns : List Nat} {rs : List Res} {c : Nat}
theorem Pcs.keep0 (W : Pcs ρ0 ρ ns rs) (F : Fra [] ρ ρ') : Pcs ρ0 ρ' ns rs :=
  ⟨W.nodup, W.len, fun i c r hc hr => F c r (by simp) (W.at_ i c r hc hr), fun c r hn hc => F c r (by simp) (W.fra c r hn hc)⟩
theorem p00 : Pcs ρ ρ [] [] := Pcs.init List.nodup_nil rfl (by intro i c r h; simp at h)
/-- New names alone. -/
theorem Pcs.fra0 (W : Pcs ρ0 ρ ns rs) (hn : ∀ c, c ∈ ns → ρ0 c = none) : Fra [] ρ0 ρ := fun c r _ hc => W.fra c r (fun hm => by rw [hn c hm] at hc; cases hc) hc
/-- What a reader comes to. -/
def RdQ (Q : Value → AW → Prop) (ρ : Store) (v : Value) : Prop := ∀ h' μ' ρ', Own h' μ' ρ' → Fra [] ρ ρ' → Q v h'
theorem RdQ.keep {Q : Value → AW → Prop} {v : Value} (H : RdQ Q ρ v) (F : Fra [] ρ ρ') : RdQ Q ρ' v := fun h' μ' ρ'' O G => H h' μ' ρ'' O (F.trans G)
theorem RdQ.now {Q : Value → AW → Prop} {v : Value} (H : RdQ Q ρ v) (O : Own h μ ρ) : Q v h := H h μ ρ O Fra.refl
theorem oB_bind {α : Type} {x : Option α} {v : α} {f : α → Prop} (h : x = some v) (H : f v) : oB x f := by rw [h]; exact H
namespace Fo
/-- A list of statements that may be read at a place. -/
def Ly (ρ : Store) (f : F) (a : Option Addr) : Prop := ∃ cells, Vw ρ [] a cells ∧ Lies (Vw ρ []) f cells
theorem Ly.keep {f : F} {a : Option Addr} (X : Ly ρ f a) (F : Fra [] ρ ρ') : Ly ρ' f a := by
  obtain ⟨c, h1, h2⟩ := X
  exact ⟨c, h1.keep F, h2.mono fun a l h => h.keep F⟩
theorem Vw.nil : Vw ρ ns none [] := .inl ⟨rfl, rfl⟩
theorem Ly.nil : Ly ρ .nil none := ⟨[], .inl ⟨rfl, rfl⟩, rfl⟩
variable {V : Option Addr → List Value → Prop}
theorem app_lt {pre rest body : F} {op k : Int} {args : List Str} : pre.len < (pre.app (.cons op args k body rest)).len := by rw [F.app_len]; simp [F.len]
/-- What stands at a statement's place. -/
structure StAt (h : AW) (i p : Nat) (op : Int) (aa : Option Addr) (an ac : Nat) (kk : Int) (ba : Option Addr) (bn bc : Nat) : Prop where
  r0 : h.rd i p = some (.int .i64 op)
  r1 : h.rd i (p + 1) = some (.slice aa an ac)
  r2 : h.rd i (p + 1 + 1) = some (.int .i64 kk)
  r3 : h.rd i (p + 1 + 1 + 1) = some (.slice ba bn bc)
theorem Sl.get {i off j : Nat} {l : List Value} {v : Value} (X : Sl h (some ⟨i, off, none⟩) l) (hj : l[j]? = some v) : h.rd i (off + j) = some v := by
  rcases X with ⟨e, _⟩ | ⟨i', off', e, hr⟩
  · cases e
  · cases e
    rw [hr j (List.getElem?_eq_some_iff.1 hj).1, hj]
theorem st_open (O : Own h μ ρ) {pre rest body : F} {op kk : Int} {args : List Str} {a : Option Addr} {c : List Value} {N : Nat} {z : Int} (X : Vw ρ [] a c) (L : Lies (Vw ρ []) (pre.app (.cons op args kk body rest)) c)
    (hz : z = pre.len) (hN : N = (pre.app (.cons op args kk body rest)).len) {f : Nat → Nat → Nat → Prop}
    (H : ∀ i off aa ac ba bc, Vw ρ [] aa (strs args) → Ly ρ body ba → (∀ {h' : AW} {μ' : Paint} {ρ' : Store}, Own h' μ' ρ' → Fra [] ρ ρ' → StAt h' i (off + pre.len * 4) op aa args.length ac kk ba body.len bc) → f i off pre.len) :
    aP a fun m7 m8 => oB (natIdx z N) fun m9 => f m7 m8 m9 := by
  obtain ⟨aa, ac, ba, bc, bcells, v1, v2, v3, c0, c1, c2, c3⟩ := lies_at L
  refine (X.sl O).ix (sz := 4) hz (by rw [hN]; exact L.len) (by omega) (by rw [hN]; exact app_lt) fun i off ea hr => ?_
  refine H i off aa ac ba bc v1 ⟨_, v2, v3⟩ fun {h'} {μ'} {ρ'} O' F' => ?_
  have Y := (X.keep F').sl O'
  rw [ea] at Y
  exact ⟨Sl.get Y c0, by rw [Nat.add_assoc]; exact Sl.get Y c1, by rw [Nat.add_assoc, Nat.add_assoc]; exact Sl.get Y c2, by rw [Nat.add_assoc, Nat.add_assoc, Nat.add_assoc]; exact Sl.get Y c3⟩
/-- Lines of words that may be read. -/
structure Wds where
  a : Option Addr
  cap : Nat
  x : List Str
def Wds.cell (p : Wds) : Value := .slice p.a p.x.length p.cap
structure Lns (ρ : Store) (ps : List Wds) (a : Option Addr) : Prop where
  top : Vw ρ [] a (ps.map Wds.cell)
  each : ∀ p, p ∈ ps → Vw ρ [] p.a (strs p.x)
  caps : ∀ p, p ∈ ps → p.x.length ≤ p.cap
theorem Lns.keep {ps : List Wds} {a : Option Addr} (X : Lns ρ ps a) (F : Fra [] ρ ρ') : Lns ρ' ps a := ⟨X.top.keep F, fun p hp => (X.each p hp).keep F, X.caps⟩
theorem wd_at (O : Own h μ ρ) {x : List Str} {a : Option Addr} {N j : Nat} {z : Int} (X : Vw ρ [] a (strs x)) (hz : z = j) (hN : N = x.length) (hj : j < x.length) {f : Str → Prop}
    (H : f x[j]) : aP a fun i off => oB (natIdx z N) fun k => oB (h.rd i (off + k * 1)) fun v => vStr v f := by
  refine (X.sl O).i1 (v := .string x[j]) hz (by simp [hN]) (by simp [hj]) ?_
  exact H
theorem sub_drop {a0 a : Option Addr} {l0 l : List Value} (S : SubOf a0 l0 a l) (m : Nat) : ∃ a', shO a m = some a' ∧ SubOf a0 l0 a' (l.drop m) := by
  obtain ⟨k, n, e, rfl⟩ := S
  match a0, e with
  | none, e =>
    simp only [shO, Option.some.injEq] at e; subst e
    exact ⟨none, rfl, k + m, n - m, rfl, by rw [List.drop_take, List.drop_drop]⟩
  | some ⟨b, off, none⟩, e =>
    simp only [shO, Option.some.injEq] at e; subst e
    exact ⟨some ⟨b, off + k + m, none⟩, rfl, k + m, n - m, by simp [shO, Nat.add_assoc], by rw [List.drop_take, List.drop_drop]⟩
  | some ⟨b, off, some s⟩, e => simp [shO] at e
theorem sub_take {a0 a : Option Addr} {l0 l : List Value} (S : SubOf a0 l0 a l) (m : Nat) : SubOf a0 l0 a (l.take m) := by
  obtain ⟨k, n, e, rfl⟩ := S
  exact ⟨k, min m n, e, by rw [List.take_take]⟩
theorem Vw.drop {a : Option Addr} {l : List Value} (X : Vw ρ ns a l) (m : Nat) : ∃ a', shO a m = some a' ∧ Vw ρ ns a' (l.drop m) := by
  rcases X with ⟨rfl, rfl⟩ | ⟨c, hn, r, hc, a0, l0, S, x⟩
  · exact ⟨none, rfl, .inl ⟨rfl, by simp⟩⟩
  · obtain ⟨a', e, S'⟩ := sub_drop S m
    exact ⟨a', e, .inr ⟨c, hn, r, hc, a0, l0, S', x⟩⟩
theorem Vw.take {a : Option Addr} {l : List Value} (X : Vw ρ ns a l) (m : Nat) : Vw ρ ns a (l.take m) := by
  rcases X with ⟨rfl, rfl⟩ | ⟨c, hn, r, hc, a0, l0, S, x⟩
  · exact .inl ⟨rfl, by simp⟩
  · exact .inr ⟨c, hn, r, hc, a0, l0, sub_take S m, x⟩
end Fo
end Go.Abs
end

section
/- What is played: lines and lists of statements that are not too great; no Go in it. -/
namespace Go.Abs.Fo
open Go.Abs
/-- No string, no list too long for the machine. -/
def Fits : F → Prop
  | .nil => True
  | .cons _ args _ body rest => args.length ≤ 140737488355328 ∧ (∀ s, s ∈ args → s.size ≤ 140737488355328) ∧ body.len ≤ 140737488355328 ∧ Fits body ∧ Fits rest
end Go.Abs.Fo
end

section
/- Reading lines: what stays as it is; pieces of a call. -/
namespace Go.Abs
variable {h h' : AW} {μ μ' : Paint} {P : Program} {ρ0 ρ ρ' : Store} {ns : List Nat} {rs : List Res} {c : Nat}
theorem Pcs.one {r : Res} (hc : ρ c = some r) : Pcs ρ ρ [c] [r] := Pcs.init (by simp) rfl (by
  intro i d s h1 h2
  cases i with
  | zero => simp at h1 h2; subst h1 h2; exact hc
  | succ i => simp at h1)
theorem Pcs.none (F : Fra [] ρ0 ρ) : Pcs ρ0 ρ [] [] := Pcs.mk (ns := []) (rs := []) List.nodup_nil rfl (by intro i c r h; simp at h) F
namespace Fo
/-- What lies among many. -/
def Vm (vs : List (Option Addr × Nat × Nat × List Value)) (a : Option Addr) (l : List Value) : Prop := (a = none ∧ l = []) ∨ ∃ cap sz, (a, cap, sz, l) ∈ vs
theorem Vm.more {vs ws : List (Option Addr × Nat × Nat × List Value)} {a : Option Addr} {l : List Value} (H : Vm vs a l) (hs : ∀ x, x ∈ vs → x ∈ ws) : Vm ws a l := by
  rcases H with x | ⟨c, s, x⟩
  · exact .inl x
  · exact .inr ⟨c, s, hs _ x⟩
theorem Vm.read {cm : Nat} {vs : List (Option Addr × Nat × Nat × List Value)} (O : Own h μ ρ) (hc : ρ cm = some (.many vs)) {a : Option Addr} {l : List Value} (H : Vm vs a l) : Vw ρ [] a l := by
  rcases H with x | ⟨c, s, x⟩
  · exact .inl x
  · exact .inr (Rd.of_many O (by simp) hc x)
theorem Ly.of {co cm : Nat} {oa : Option Addr} {oc : Nat} {cells : List Value} {vs : List (Option Addr × Nat × Nat × List Value)} {f : F} (O : Own h μ ρ) (h1 : ρ co = some (.sl oa oc 4 cells)) (h2 : ρ cm = some (.many vs)) (L : Lies (Vm vs) f cells) : Ly ρ f oa :=
  ⟨cells, .inr (Rd.of_sl O (by simp) h1), L.mono fun _ _ x => x.read O h2⟩
end Fo
end Go.Abs
end

section
/- Sizes, depths, what may be; lines built piece by piece. No Go in it. -/
namespace Go.Abs
variable {h h' : AW} {μ μ' : Paint} {P : Program} {ρ0 ρ ρ' : Store} {ns : List Nat} {rs : List Res} {c : Nat}
end Go.Abs
namespace Go.Abs.Fo
open Go.Abs
namespace F
def size : F → Nat
  | nil => 0
  | cons _ _ _ b r => 1 + b.size + r.size
/-- Without the statements themselves. -/
def more : F → Nat
  | nil => 0
  | cons _ _ _ b r => b.size + r.more
def fine (op : Int) (args : Nat) (n : Int) : Bool := decide (1 ≤ op) && decide (op ≤ 12) && fitsM op args && decide (0 ≤ n) && decide (n ≤ 1000) && (decide (n = 0) || decide (op = 10))
/-- Each statement is as it must be. -/
def right : F → Nat → Bool
  | nil, _ => true
  | cons op args n b r, d => fine op args.length n && !(opensM op && decide (d = 8)) && (opensM op || decide (b.len = 0)) && b.right (d + 1) && r.right d
def may (f : F) : Bool := f.right 0 && decide (f.size ≤ 256)
end F
end Go.Abs.Fo
end

section
/- Statements as lines, and read again. No Go in it. -/
namespace Go.Abs.Fo
open Go.Abs
/-- The line of a statement. -/
def lineM (op : Int) (args : List Str) (n : Int) : Line := wordM op :: (args ++ (if op = 10 then [digS n.toNat] else []))
namespace F
def lines : F → List Line
  | nil => []
  | cons op args n b r => lineM op args n :: ((if opensM op = true then b.lines ++ [[wEnd]] else []) ++ r.lines)
end F
end Go.Abs.Fo
end

section
/- Lines of statements are mild; their numbers are digits. No Go in it. -/
namespace Go.Abs
end Go.Abs
namespace Go.Abs.Fo
open Go.Abs
end Go.Abs.Fo
end

section
/- Actions as text: how a word is shown; no Go in it. -/
namespace Go.Abs.Fo
end Go.Abs.Fo
end

section
/- Lines cut: what is read of the beginning. -/
namespace Go.Abs.Fo
end Go.Abs.Fo
end

section
/- What is read as a good action is its lines. No Go in it. -/
namespace Go.Abs.Fo
open Go.Abs
end Go.Abs.Fo
end

section
/- A job's text: two jobs of paths and good actions have one text just if they are the same. No Go in it. -/
namespace Go.Abs.Fo
/-- Words, each behind a blank. -/
def sp (ws : List (List UInt8)) : List UInt8 := ws.flatMap fun w => 32 :: w
end Go.Abs.Fo
end

section
/- The scheduler as it is said: tasks, slots, a queue, who waits in which order. No Go in it. -/
namespace Go.Abs.Sch
open Go.Abs

structure Tk where
  key : Str
  st : Nat
  on : Str
  since : Nat
  starts : Nat
structure M where
  tasks : List Tk
  slots : List Str
  queue : List Str
  clock : Nat

/-- The first slot that is not idle, from a place on, around. -/
def pickFrom (slots : List Str) (a : Nat) : Nat → Nat → Option Str
  | 0, _ => none
  | n + 1, i => if slots.getD ((a + i) % slots.length) e0 = e0 then pickFrom slots a n (i + 1) else some (slots.getD ((a + i) % slots.length) e0)
def pickAt (w : Nat) (n : Int) : Nat := (n % (w : Int)).toNat
def pick (m : M) (n : Int) : Option Str := pickFrom m.slots (pickAt m.slots.length n) m.slots.length 0
def less (x y : Str) : Bool := Op.bytesLess x.data.toList y.data.toList
/-- Who waits for a key, and began to ahead of the one found so far. -/
def ahead (l : List Tk) (f : Option Nat) (t : Tk) : Bool := match f with
  | some j => decide (t.since < ((l[j]?).map Tk.since).getD 0)
  | none => true
end Go.Abs.Sch
end

section
/- The scheduler as it is made: a task knows who waits for it; how many tasks are in each state is counted. No Go in it. -/
namespace Go.Abs.Sch
open Go.Abs
structure MT where
  key : Str
  st : Nat
  on : Str
  ws : List Str
  starts : Nat
structure MI where
  tasks : List MT
  slots : List Str
  queue : List Str
def mupL (l : List MT) (k : Str) (f : MT → MT) : List MT := l.map fun t => if t.key = k then f t else t
def ready (m : MI) (k : Str) : MI := { m with tasks := mupL m.tasks k fun t => { t with st := 1 }, queue := m.queue ++ [k] }
end Go.Abs.Sch
end

section
/- Tests run apart: what they come to. -/
namespace Go.Abs
variable {P : Program} {h : AW}
def closedB (P : Program) (n : Nat) (f : FuncId) : Option Value :=
  match closedOf P f with
  | some (fn, c) => closedRes P fn (run P (callF P n) n c { n := Nat.max ([] : List Value).length fn.ntmps, t := T.ofList [] } ⟨P.globals.size, .nil, .nil, .nil, .nil⟩)
  | none => none
def isTrue : Option Value → Bool
  | some (.bool b) => b
  | _ => false
theorem own_call {n : Nat} {f : FuncId} (h1 : (bodyOf P f).isNone = true) (h2 : isTrue (closedB P n f) = true) : callF P (n + 1) f [] h = some (.bool true, h) := by
  unfold callF
  have h1 : bodyOf P f = none := by simpa using h1
  rw [h1]
  simp only
  unfold noBodyV
  simp only
  unfold isTrue at h2
  split at h2
  · rename_i b hb
    subst h2
    unfold closedB at hb
    split at hb
    · rename_i fn c hc
      rw [hc]
      simp only
      rw [hb]
    · cases hb
  · cases h2
theorem own_evq {n : Nat} {f : FuncId} (h1 : (bodyOf P f).isNone = true) (h2 : isTrue (closedB P n f) = true) {Q : Value → AW → Prop} (hq : Q (.bool true) h) : EvQ P f [] h Q := by
  unfold EvQ
  exact ⟨_, _, ⟨n + 1, own_call h1 h2⟩, hq⟩
end Go.Abs
end

section
/- A region whose order is open, joined. -/
open Go.RowKit
namespace Go.Abs
variable {B0 : Zn} {w0 : World} {φ ψ : Map} {h h' h0 : AW} {w : World} {P : Program}

structure Inv (P : Program) (B0 : Zn) (w0 : World) (ops : Array Oper) (tr : List St) (h0 : AW) (F0 : Fr) (ψ : Map) (listed : Array Bool) (k : Nat) (a : Act) (w : World) : Prop where
  size : listed.size = ops.size
  down : ∀ (j : Nat) (oj : Oper), ops.toList[j]? = some oj → listed[j]? = some true → ∀ e, e ∈ oj.after.toList → Region.binds .any e = true → listed[e.on]? = some true
  kle : k ≤ (acts 0 tr).length
  kth : ∀ (m i : Nat) (x : AW), (acts 0 tr)[m]? = some (i, x) → (listed[i]? = some true ↔ m < k)
  heap : HRel B0 w0 ψ (hAt h0 (acts 0 tr) k) w
  glob : Glob P ψ
  n : a.tmps.size = F0.n
  vals : ∀ (j : Nat) (s : St), tr[j]? = some s → listed[j]? = some true → ∀ t : Nat, s.o.dst = some t → VRel ψ s.v (a.eval (.tmp t))
  rest : ∀ t : Nat, (∀ (j : Nat) (s : St), tr[j]? = some s → listed[j]? = some true → s.o.dst ≠ some t) → VRel ψ (F0.ev (.tmp t)) (a.eval (.tmp t))

theorem eval_put {a : Act} {d : Option Tmp} {v : Value} (hd : ∀ x : Nat, d = some x → x < a.tmps.size) (t : Nat) : (a.put d v).eval (.tmp t) = if d = some t then v else a.eval (.tmp t) := by
  cases d with
  | none => simp [Act.put]
  | some d =>
    have hlt := hd d rfl
    by_cases htd : d = t
    · subst htd
      rw [if_pos rfl]
      simp only [Act.put, Act.eval]
      rw [Array.getD_eq_getD_getElem?, Array.getElem?_setIfInBounds_self, if_pos hlt]
      rfl
    · rw [if_neg (fun e => htd (Option.some.inj e))]
      simp only [Act.put, Act.eval]
      rw [Array.getD_eq_getD_getElem?, Array.getElem?_setIfInBounds_ne htd, ← Array.getD_eq_getD_getElem?]

theorem lst_set {listed : Array Bool} {j : Nat} (hj : j < listed.size) (i : Nat) : (listed.setIfInBounds j true)[i]? = some true ↔ i = j ∨ listed[i]? = some true := by
  by_cases h : i = j
  · subst h; simp [hj]
  · rw [Array.getElem?_setIfInBounds_ne (Ne.symm h)]; simp [h]

theorem bef_listed {ops : List Oper} (S : Static ops) {listed : Array Bool} (hdown : ∀ (j : Nat) (oj : Oper), ops[j]? = some oj → listed[j]? = some true → ∀ e, e ∈ oj.after.toList → Region.binds .any e = true → listed[e.on]? = some true) :
    ∀ (n j : Nat), j < n → ∀ oj, ops[j]? = some oj → (∀ e, e ∈ oj.after.toList → Region.binds .any e = true → listed[e.on]? = some true) → ∀ i, bef (masks ops []) i j = true → listed[i]? = some true := by
  intro n
  induction n with
  | zero => intro j hj; omega
  | succ n ih =>
    intro j hj oj hoj he i hb
    obtain ⟨e, hm, hbi, hc⟩ := S.mask j oj i hoj hb
    rcases hc with rfl | hc
    · exact he e hm hbi
    · have hlt := S.edge j oj hoj e hm hbi
      have hlen : j < ops.length := by
        rcases Nat.lt_or_ge j ops.length with hx | hx
        · exact hx
        · rw [List.getElem?_eq_none hx] at hoj; cases hoj
      obtain ⟨oe, hoe⟩ : ∃ oe, ops[e.on]? = some oe := ⟨_, List.getElem?_eq_getElem (by omega)⟩
      exact ih e.on (by omega) oe hoe (hdown e.on oe hoe (he e hm hbi)) i hc

/-- What is known of the trace of a region. -/
structure Trace (P : Program) (call : FuncId → List Value → AW → Option (Value × AW)) (ops : Array Oper) (tr : List St) (F0 F' : Fr) (h0 h' : AW) : Prop where
  len : tr.length = ops.toList.length
  at_ : ∀ (j : Nat) (s : St), tr[j]? = some s → ops.toList[j]? = some s.o ∧ StSpec P call ops.toList s ∧ s.F.n = F0.n
  n : F'.n = F0.n
  fr : ∀ (j : Nat) (s : St), tr[j]? = some s → ∀ t : Nat, (∃ (i : Nat) (s' : St), i < j ∧ tr[i]? = some s' ∧ s'.o.dst = some t ∧ s.F.ev (.tmp t) = s'.v) ∨ ((∀ (i : Nat) (s' : St), i < j → tr[i]? = some s' → s'.o.dst ≠ some t) ∧ s.F.ev (.tmp t) = F0.ev (.tmp t))
  fin : ∀ t : Nat, (∃ (i : Nat) (s' : St), tr[i]? = some s' ∧ s'.o.dst = some t ∧ F'.ev (.tmp t) = s'.v) ∨ ((∀ (i : Nat) (s' : St), tr[i]? = some s' → s'.o.dst ≠ some t) ∧ F'.ev (.tmp t) = F0.ev (.tmp t))
  hp : ∀ (j : Nat) (s : St), tr[j]? = some s → s.h = hAt h0 (acts 0 tr) (acts 0 (tr.take j)).length ∧ (∀ h2, s.act = some h2 → (acts 0 tr)[(acts 0 (tr.take j)).length]? = some (j, h2))
  last : h' = hAt h0 (acts 0 tr) (acts 0 tr).length

theorem trace_of {call : FuncId → List Value → AW → Option (Value × AW)} {ops : Array Oper} {F F' : Fr} {tr : List St} (ht : traceOps P call ops.toList ops.toList F h = some (tr, F', h')) : Trace P call ops tr F F' h h' := by
  obtain ⟨q1, q2, q3, q4, q5, q6, q7⟩ := trace_spec ops.toList F h tr F' h' ht
  refine ⟨q1, q2, q3, fun j s hj t => ?_, fun t => ?_, fun j s hj => ?_, q7 0⟩
  · rcases q4 j s hj t with ⟨i, s', a, b, c, d, _⟩ | b
    · exact .inl ⟨i, s', a, b, c, d⟩
    · exact .inr b
  · rcases q5 t with ⟨i, s', b, c, d, _⟩ | b
    · exact .inl ⟨i, s', b, c, d⟩
    · exact .inr b
  · have := q6 j s hj 0
    exact ⟨this.1, fun h2 e => by have := this.2 h2 e; rwa [Nat.zero_add] at this⟩

variable {call : FuncId → List Value → AW → Option (Value × AW)} {ops : Array Oper} {tr : List St} {F0 F' : Fr}

theorem Inv.step {B1 : Zn} {w1 : World} {listed : Array Bool} {k : Nat} {a : Act} (S : Static ops.toList) (T : Trace P call ops tr F0 F' h0 h') (I : Inv P B1 w1 ops tr h0 F0 ψ listed k a w) {j : Nat} {s : St} (hj : tr[j]? = some s)
    (hre : ∀ e, e ∈ s.o.after.toList → Region.binds .any e = true → listed[e.on]? = some true) (hnl : listed[j]? = some false) {ψ' : Map} (hle : ψ.le ψ') {v' : Value} (hv : VRel ψ' s.v v') {k' : Nat}
    (hk : (s.act = none ∧ k' = k) ∨ (∃ x, (acts 0 tr)[k]? = some (j, x) ∧ k' = k + 1)) {w' : World} (H' : HRel B0 w0 ψ' (hAt h0 (acts 0 tr) k') w') :
    Inv P B0 w0 ops tr h0 F0 ψ' (listed.setIfInBounds j true) k' (a.put s.o.dst v') w' := by
  obtain ⟨hoj, hspec, hsn⟩ := T.at_ j s hj
  have hjs : j < listed.size := by
    rcases Nat.lt_or_ge j listed.size with hx | hx
    · exact hx
    · rw [Array.getElem?_eq_none hx] at hnl; cases hnl
  have hroom : ∀ x : Nat, s.o.dst = some x → x < a.tmps.size := fun x hx => by have := hspec.room x hx; rw [hsn] at this; rw [I.n]; exact this
  refine ⟨by simpa using I.size, ?_, ?_, ?_, H', I.glob.mono hle, ?_, ?_, ?_⟩
  · intro i oi hi hl e he hb
    rw [lst_set hjs] at hl ⊢
    rcases hl with rfl | hl
    · rw [hoj] at hi; cases hi
      exact .inr (hre e he hb)
    · exact .inr (I.down i oi hi hl e he hb)
  · rcases hk with ⟨_, rfl⟩ | ⟨x, hx, rfl⟩
    · exact I.kle
    · rcases Nat.lt_or_ge k (acts 0 tr).length with hy | hy
      · exact hy
      · rw [List.getElem?_eq_none hy] at hx; cases hx
  · intro m i x hm
    rw [lst_set hjs]
    have hI := I.kth m i x hm
    rcases hk with ⟨hn, rfl⟩ | ⟨y, hy, rfl⟩
    · have hne : i ≠ j := by
        rintro rfl
        obtain ⟨_, ⟨s', a1, a2⟩, _⟩ := acts_at tr 0 m i x hm
        rw [Nat.sub_zero, hj] at a1
        cases a1
        rw [hn] at a2; cases a2
      simp only [hne, false_or]
      exact hI
    · by_cases hij : i = j
      · subst hij
        have e1 := (acts_at tr 0 m i x hm).2.2
        have e2 := (acts_at tr 0 k i y hy).2.2
        have : m = k := e1.trans e2.symm
        subst this
        simp
      · simp only [hij, false_or, hI]
        constructor
        · intro hx; omega
        · intro hx
          rcases Nat.lt_or_ge m k with hz | hz
          · exact hz
          · have : m = k := by omega
            subst this
            rw [hm] at hy; cases hy; exact absurd rfl hij
  · have : (a.put s.o.dst v').tmps.size = a.tmps.size := by cases s.o.dst <;> simp [Act.put]
    rw [this]; exact I.n
  · intro i si hi hl t ht
    rw [eval_put hroom]
    rw [lst_set hjs] at hl
    by_cases hij : i = j
    · subst hij
      rw [hj] at hi; cases hi
      rw [if_pos ht]; exact hv
    · have hl' : listed[i]? = some true := by simpa [hij] using hl
      have hne := (S.pair i j si.o s.o (T.at_ i si hi).1 hoj hij t ht).1
      rw [if_neg hne]
      exact (I.vals i si hi hl' t ht).mono hle
  · intro t ht
    rw [eval_put hroom]
    have hnj : s.o.dst ≠ some t := ht j s hj (by rw [lst_set hjs]; exact .inl rfl)
    rw [if_neg hnj]
    exact (I.rest t fun i si hi hl => ht i si hi (by rw [lst_set hjs]; exact .inr hl)).mono hle

/-- What an operation that may come next looks at is what the text's own order shows it. -/
theorem Inv.reads {listed : Array Bool} {k : Nat} {a : Act} (S : Static ops.toList) (T : Trace P call ops tr F0 F' h0 h') (I : Inv P B0 w0 ops tr h0 F0 ψ listed k a w) {j : Nat} {s : St} (hj : tr[j]? = some s)
    (hre : ∀ e, e ∈ s.o.after.toList → Region.binds .any e = true → listed[e.on]? = some true) (hnl : listed[j]? = some false) :
    ∀ t, t ∈ readsOf ops.toList s.o → VRel ψ (s.F.ev (.tmp t)) (a.eval (.tmp t)) := by
  intro t ht
  obtain ⟨hoj, hspec, hsn⟩ := T.at_ j s hj
  rcases T.fr j s hj t with ⟨i, si, a1, a2, a3, a4⟩ | ⟨b1, b2⟩
  · have hb := ((S.pair i j si.o s.o (T.at_ i si a2).1 hoj (by omega) t a3).2 ht).1 a1
    have hl := bef_listed S I.down (j + 1) j (by omega) s.o hoj hre i hb
    rw [a4]
    exact I.vals i si a2 hl t a3
  · rw [b2]
    refine I.rest t fun i si hi hl hd => ?_
    rcases Nat.lt_or_ge i j with hlt | hge
    · exact b1 i si hlt hi hd
    · have hne : i ≠ j := by rintro rfl; rw [hnl] at hl; cases hl
      have hb := ((S.pair i j si.o s.o (T.at_ i si hi).1 hoj hne t hd).2 ht).2 (by omega)
      have := bef_listed S I.down (i + 1) i (by omega) si.o (T.at_ i si hi).1 (I.down i si.o (T.at_ i si hi).1 hl) j hb
      rw [hnl] at this; cases this

theorem ready_spec {listed : Array Bool} (hsz : listed.size = ops.size) {i : Nat} (hi : i ∈ Region.ready .any ops listed) :
    listed[i]? = some false ∧ ∃ o, ops[i]? = some o ∧ ∀ e, e ∈ o.after.toList → Region.binds .any e = true → listed[e.on]? = some true := by
  unfold Region.ready at hi
  simp only [List.mem_filter, List.mem_range, Bool.and_eq_true, Bool.not_eq_true'] at hi
  obtain ⟨h1, h2, h3⟩ := hi
  rw [Array.getD_eq_getD_getElem?, Array.getElem?_eq_getElem (by omega)] at h2
  refine ⟨by rw [Array.getElem?_eq_getElem (by omega)]; exact congrArg some h2, ?_⟩
  rw [Array.getElem?_eq_getElem h1] at h3
  simp only [Option.map_some, Option.getD_some] at h3
  refine ⟨ops[i], Array.getElem?_eq_getElem h1, fun e he hb => ?_⟩
  rw [Array.all_eq_true'] at h3
  have := h3 e (by simpa using he)
  rw [hb] at this
  simp only [Bool.not_true, Bool.false_or] at this
  rw [Array.getD_eq_getD_getElem?] at this
  cases hx : listed[e.on]? with
  | none => rw [hx] at this; cases this
  | some b => rw [hx] at this; simp only [Option.getD_some] at this; rw [this]

theorem all_listed {listed : Array Bool} (hsz : listed.size = ops.size) (S : Static ops.toList) (hr : Region.ready .any ops listed = []) : ∀ (n i : Nat), i < n → i < ops.size → listed[i]? = some true := by
  intro n
  induction n with
  | zero => intro i hi; omega
  | succ n ih =>
    intro i hi hlt
    cases hl : listed[i]? with
    | none => rw [Array.getElem?_eq_getElem (by omega)] at hl; cases hl
    | some b =>
      cases b with
      | true => rfl
      | false =>
        exfalso
        have hmem : i ∈ Region.ready .any ops listed := by
          unfold Region.ready
          simp only [List.mem_filter, List.mem_range, Bool.and_eq_true, Bool.not_eq_true']
          refine ⟨hlt, ?_, ?_⟩
          · rw [Array.getD_eq_getD_getElem?, hl]; rfl
          · rw [Array.getElem?_eq_getElem hlt]
            simp only [Option.map_some, Option.getD_some]
            rw [Array.all_eq_true']
            intro e he
            cases hb : Region.binds .any e with
            | false => rfl
            | true =>
              have hlt' := S.edge i ops[i] (by rw [Array.getElem?_toList]; exact Array.getElem?_eq_getElem hlt) e (by simpa using he) hb
              rw [Array.getD_eq_getD_getElem?, ih e.on (by omega) (by omega)]; rfl
        rw [hr] at hmem; cases hmem

theorem drawn_any (hcall : CallOk P B0 w0 call) (hok : opersOk P.globals.size ops.toList = true) (S : Static ops.toList) (T : Trace P call ops tr F0 F' h0 h') (hch : chainOk (masks ops.toList []) (acts 0 tr) = true) (hst : stsOk P (masks ops.toList []) h0 (acts 0 tr) 0 0 tr = true) {Q : Exit → Act → World → Prop} {φ : Map} {a0 : Act}
    (hQ : ∀ ψ a' w', φ.le ψ → FRel ψ F' a' → HRel B0 w0 ψ h' w' → a'.defers = a0.defers → Q .normal a' w') :
    ∀ (fuel : Nat) (listed : Array Bool) (k : Nat) (ψ : Map) (a : Act) (w : World), Inv P B0 w0 ops tr h0 F0 ψ listed k a w → unl listed ≤ fuel → φ.le ψ → a.defers = a0.defers → wpAny P .any ops Q fuel listed a w := by
  have hdef : ∀ (a : Act) d v, (a.put d v).defers = a.defers := fun a d v => by cases d <;> rfl
  have fin : ∀ (listed : Array Bool) (k : Nat) (ψ : Map) (a : Act) (w : World), Inv P B0 w0 ops tr h0 F0 ψ listed k a w → φ.le ψ → a.defers = a0.defers → Region.ready .any ops listed = [] → Q .normal a w := by
    intro listed k ψ a w I hle hd hr
    have hall : ∀ i, i < ops.size → listed[i]? = some true := fun i hi => all_listed I.size S hr (i + 1) i (by omega) hi
    have hlt : ∀ (i : Nat) (s : St), tr[i]? = some s → i < ops.size := fun i s hi => by
      have : i < tr.length := by
        rcases Nat.lt_or_ge i tr.length with hx | hx
        · exact hx
        · rw [List.getElem?_eq_none hx] at hi; cases hi
      rw [T.len] at this; simpa using this
    refine hQ ψ a w hle ⟨by rw [I.n, T.n], fun t => ?_⟩ ?_ hd
    · rcases T.fin t with ⟨i, si, a1, a2, a3⟩ | ⟨b1, b2⟩
      · rw [a3]; exact I.vals i si a1 (hall i (hlt i si a1)) t a2
      · rw [b2]; exact I.rest t fun i si hi _ => b1 i si hi
    · have hk : k = (acts 0 tr).length := by
        rcases Nat.lt_or_ge k (acts 0 tr).length with hx | hx
        · obtain ⟨⟨i, x⟩, hix⟩ : ∃ p, (acts 0 tr)[k]? = some p := ⟨_, List.getElem?_eq_getElem hx⟩
          obtain ⟨_, ⟨s, a1, _⟩, _⟩ := acts_at tr 0 k i x hix
          have := (I.kth k i x hix).1 (hall i (hlt i s (by simpa using a1)))
          omega
        · exact Nat.le_antisymm I.kle hx
      rw [T.last, ← hk]
      exact I.heap
  intro fuel
  induction fuel with
  | zero =>
    intro listed k ψ a w I hu hle hd
    have hr : Region.ready .any ops listed = [] := by
      cases hx : Region.ready .any ops listed with
      | nil => rfl
      | cons i l =>
        have := (ready_spec I.size (i := i) (by rw [hx]; simp)).1
        have := unl_set this
        omega
    exact ⟨hr, fin listed k ψ a w I hle hd hr⟩
  | succ fuel ih =>
    intro listed k ψ a w I hu hle hd
    refine ⟨fin listed k ψ a w I hle hd, fun j hj => ?_⟩
    obtain ⟨hnl, o, ho, hre⟩ := ready_spec I.size hj
    have huu := unl_set hnl
    have hol : ops.toList[j]? = some o := by simpa using ho
    obtain ⟨s, hs⟩ : ∃ s, tr[j]? = some s := by
      have : j < tr.length := by
        rw [T.len]
        rcases Nat.lt_or_ge j ops.toList.length with hx | hx
        · exact hx
        · rw [List.getElem?_eq_none hx] at hol; cases hol
      exact ⟨_, List.getElem?_eq_getElem this⟩
    obtain ⟨hoj, hspec, hsn⟩ := T.at_ j s hs
    rw [hol] at hoj
    obtain rfl := Option.some.inj hoj
    have hreads := I.reads S T hs hre hnl
    have hmem : s.o ∈ ops.toList := List.mem_of_getElem? hol
    have hops := opersOk_spec hok s.o hmem
    have hrev : Rev ψ s.F a.eval s.o.op.operands.toList := rev_of hops I.glob fun t ht => hreads t (List.mem_append_left _ ht)
    have hwant := guard_ok' (ops := ops) (o := s.o) (a := a) (fun g want og d h1 h2 h3 => hreads d (by
      unfold readsOf
      refine List.mem_append_right _ ?_
      rw [h1]
      simp only [h2, h3, List.mem_singleton])) hspec.guard
    have next : ∀ (ψ' : Map) (v' : Value) (w' : World) (k' : Nat), ψ.le ψ' → VRel ψ' s.v v' → ((s.act = none ∧ k' = k) ∨ (∃ x, (acts 0 tr)[k]? = some (j, x) ∧ k' = k + 1)) → HRel B0 w0 ψ' (hAt h0 (acts 0 tr) k') w' →
        wpAny P .any ops Q fuel (listed.setIfInBounds j true) (a.put s.o.dst v') w' := fun ψ' v' w' k' hle' hv hk H' =>
      ih _ k' ψ' _ w' (I.step S T hs hre hnl hle' hv hk H') (by omega) (Map.le_trans hle hle') ((hdef _ _ _).trans hd)
    unfold wpOp
    rw [ho]
    simp only
    rw [hwant]
    cases hw : s.want with
    | false =>
      rw [if_neg (by simp)]
      obtain ⟨e1, e2⟩ := hspec.off hw
      exact next ψ undef w k ψ.le_refl (by rw [e2]; exact VRel.undef) (.inl ⟨e1, rfl⟩) I.heap
    | true =>
      rw [if_pos rfl]
      refine .inl ?_
      have hbl : ∀ i, bef (masks ops.toList []) i j = true → listed[i]? = some true := fun i hb => bef_listed S I.down (j + 1) j (by omega) s.o hol hre i hb
      cases ha : s.act with
      | none =>
        have hq := hspec.quiet hw ha
        have same : ∃ v, opQ P s.F (hAt h0 (acts 0 tr) k) s.o.op = some v ∧ v = s.v := by
          cases hlk : looks s.o.op with
          | false => exact ⟨s.v, by rw [opQ_still hlk]; exact hq, rfl⟩
          | true =>
            have hst' := sts_spec hst j s hs
            rw [Nat.zero_add, Nat.zero_add] at hst'
            unfold stOk at hst'
            rw [ha, hw, hlk] at hst'
            simp only [Bool.not_true, Bool.false_or] at hst'
            have hchk := chk_spec (acts 0 tr) 0 h0 k hst' I.kle
              (fun m p hm hp => by
                cases hb : bef (masks ops.toList []) j p.1 with
                | false => rfl
                | true =>
                  obtain ⟨i, x⟩ := p
                  have hl := (I.kth m i x hp).2 hm
                  obtain ⟨_, ⟨si, a1, _⟩, _⟩ := acts_at tr 0 m i x hp
                  rw [Nat.sub_zero] at a1
                  have hoi := (T.at_ i si a1).1
                  have := bef_listed S I.down (i + 1) i (by omega) si.o hoi (I.down i si.o hoi hl) j hb
                  rw [hnl] at this; cases this)
              (fun m p hm hp => by
                cases hb : bef (masks ops.toList []) p.1 j with
                | false => rfl
                | true =>
                  obtain ⟨i, x⟩ := p
                  have := (I.kth m i x hp).1 (hbl i hb)
                  omega)
            rcases hchk with e | e
            · have := (T.hp j s hs).1
              rw [Nat.zero_add] at e
              rw [e, ← this]
              exact ⟨s.v, hq, rfl⟩
            · split at e
              · rename_i v hv
                exact ⟨v, hv, beqV_ok _ _ _ e⟩
              · cases e
        obtain ⟨v, hv, rfl⟩ := same
        obtain ⟨v', hrun, hvr⟩ := opQ_ok (P := P) I.heap hrev hv
        unfold Oper.wp
        rw [hrun, Oper.upon_value]
        exact next ψ v' w k ψ.le_refl hvr (.inl ⟨ha, rfl⟩) I.heap
      | some h2 =>
        obtain ⟨_, hact⟩ := hspec.turn h2 ha
        obtain ⟨hsh, hm⟩ := T.hp j s hs
        have hm := hm h2 ha
        generalize (acts 0 (tr.take j)).length = m at hsh hm
        have hmk : m = k := by
          have hnot : ¬ m < k := fun hlt => by
            have := (I.kth m j h2 hm).2 hlt
            rw [hnl] at this; cases this
          rcases Nat.lt_or_ge k m with hlt | hge
          · exfalso
            obtain ⟨m', rfl⟩ : ∃ m', m = m' + 1 := ⟨m - 1, by omega⟩
            obtain ⟨⟨i, x⟩, hix⟩ : ∃ p, (acts 0 tr)[m']? = some p := by
              have : m' < (acts 0 tr).length := by
                rcases Nat.lt_or_ge m' (acts 0 tr).length with hx | hx
                · exact hx
                · rw [List.getElem?_eq_none (by omega)] at hm; cases hm
              exact ⟨_, List.getElem?_eq_getElem this⟩
            have := (I.kth m' i x hix).1 (hbl i (chain_spec hch m' (i, x) (j, h2) hix hm))
            omega
          · omega
        subst hmk
        rw [hsh] at hact
        refine act_ok hcall hrev I.heap I.glob hact _ Q fun ψ' v' w' hle' hv H' => ?_
        refine next ψ' v' w' (m + 1) hle' hv (.inr ⟨h2, hm, rfl⟩) ?_
        rw [hAt_succ _ _ _ _ hm]
        exact H'

/-- One operation that may come next. -/
theorem exec_one (hcall : CallOk P B0 w0 call) (hok : opersOk P.globals.size ops.toList = true) (S : Static ops.toList) (T : Trace P call ops tr F0 F' h0 h') (hst : stsOk P (masks ops.toList []) h0 (acts 0 tr) 0 0 tr = true)
    {listed : Array Bool} {k : Nat} {a0 a : Act} (I : Inv P B0 w0 ops tr h0 F0 ψ listed k a0 w) {j : Nat} {s : St} (hs : tr[j]? = some s) (hre : ∀ e, e ∈ s.o.after.toList → Region.binds .any e = true → listed[e.on]? = some true) (hnl : listed[j]? = some false)
    (hea : ∀ t, t ∈ readsOf ops.toList s.o → a.eval (.tmp t) = a0.eval (.tmp t)) (hact : ∀ h2, s.act = some h2 → ∃ x, (acts 0 tr)[k]? = some (j, x)) {K : Act → World → Prop} {Q : Exit → Act → World → Prop}
    (next : ∀ ψ' v' w' k', ψ.le ψ' → VRel ψ' s.v v' → ((s.act = none ∧ k' = k) ∨ (∃ x, (acts 0 tr)[k]? = some (j, x) ∧ k' = k + 1)) → HRel B0 w0 ψ' (hAt h0 (acts 0 tr) k') w' → K (a.put s.o.dst v') w') : wpOp P ops Q j K a w := by
  obtain ⟨hol, hspec, hsn⟩ := T.at_ j s hs
  have ho : ops[j]? = some s.o := by simpa using hol
  have hreads0 := I.reads S T hs hre hnl
  have hreads : ∀ t, t ∈ readsOf ops.toList s.o → VRel ψ (s.F.ev (.tmp t)) (a.eval (.tmp t)) := fun t ht => by rw [hea t ht]; exact hreads0 t ht
  have hmem : s.o ∈ ops.toList := List.mem_of_getElem? hol
  have hops := opersOk_spec hok s.o hmem
  have hrev : Rev ψ s.F a.eval s.o.op.operands.toList := rev_of hops I.glob fun t ht => hreads t (List.mem_append_left _ ht)
  have hwant := guard_ok' (ops := ops) (o := s.o) (a := a) (fun g want og d h1 h2 h3 => hreads d (by
    unfold readsOf
    refine List.mem_append_right _ ?_
    rw [h1]
    simp only [h2, h3, List.mem_singleton])) hspec.guard
  unfold wpOp
  rw [ho]
  simp only
  rw [hwant]
  cases hw : s.want with
  | false =>
    rw [if_neg (by simp)]
    obtain ⟨e1, e2⟩ := hspec.off hw
    exact next ψ undef w k ψ.le_refl (by rw [e2]; exact VRel.undef) (.inl ⟨e1, rfl⟩) I.heap
  | true =>
    rw [if_pos rfl]
    refine .inl ?_
    have hbl : ∀ i, bef (masks ops.toList []) i j = true → listed[i]? = some true := fun i hb => bef_listed S I.down (j + 1) j (by omega) s.o hol hre i hb
    cases ha : s.act with
    | none =>
      have hq := hspec.quiet hw ha
      have same : ∃ v, opQ P s.F (hAt h0 (acts 0 tr) k) s.o.op = some v ∧ v = s.v := by
        cases hlk : looks s.o.op with
        | false => exact ⟨s.v, by rw [opQ_still hlk]; exact hq, rfl⟩
        | true =>
          have hst' := sts_spec hst j s hs
          rw [Nat.zero_add, Nat.zero_add] at hst'
          unfold stOk at hst'
          rw [ha, hw, hlk] at hst'
          simp only [Bool.not_true, Bool.false_or] at hst'
          have hchk := chk_spec (acts 0 tr) 0 h0 k hst' I.kle
            (fun m p hm hp => by
              cases hb : bef (masks ops.toList []) j p.1 with
              | false => rfl
              | true =>
                obtain ⟨i, x⟩ := p
                have hl := (I.kth m i x hp).2 hm
                obtain ⟨_, ⟨si, a1, _⟩, _⟩ := acts_at tr 0 m i x hp
                rw [Nat.sub_zero] at a1
                have hoi := (T.at_ i si a1).1
                have := bef_listed S I.down (i + 1) i (by omega) si.o hoi (I.down i si.o hoi hl) j hb
                rw [hnl] at this; cases this)
            (fun m p hm hp => by
              cases hb : bef (masks ops.toList []) p.1 j with
              | false => rfl
              | true =>
                obtain ⟨i, x⟩ := p
                have := (I.kth m i x hp).1 (hbl i hb)
                omega)
          rcases hchk with e | e
          · have := (T.hp j s hs).1
            rw [Nat.zero_add] at e
            rw [e, ← this]
            exact ⟨s.v, hq, rfl⟩
          · split at e
            · rename_i v hv
              exact ⟨v, hv, beqV_ok _ _ _ e⟩
            · cases e
      obtain ⟨v, hv, hvs⟩ := same
      obtain ⟨v', hrun, hvr⟩ := opQ_ok (P := P) I.heap hrev hv
      unfold Oper.wp
      rw [hrun, Oper.upon_value]
      exact next ψ v' w k ψ.le_refl (by rw [← hvs]; exact hvr) (.inl ⟨ha, rfl⟩) I.heap
    | some h2 =>
      obtain ⟨_, hact2⟩ := hspec.turn h2 ha
      obtain ⟨hsh, hm⟩ := T.hp j s hs
      have hm := hm h2 ha
      generalize (acts 0 (tr.take j)).length = m at hsh hm
      obtain ⟨x, hx⟩ := hact h2 ha
      have hmk : m = k := (acts_at tr 0 m j h2 hm).2.2.trans (acts_at tr 0 k j x hx).2.2.symm
      subst hmk
      rw [hsh] at hact2
      refine act_ok hcall hrev I.heap I.glob hact2 _ Q fun ψ' v' w' hle' hv H' => ?_
      refine next ψ' v' w' (m + 1) hle' hv (.inr ⟨h2, hm, rfl⟩) ?_
      rw [hAt_succ _ _ _ _ hm]
      exact H'

theorem befAll_spec {M : List Nat} {j : Nat} : ∀ {l : List Nat}, befAll M l j = true → ∀ i, i ∈ l → bef M i j = true
  | x :: l, h, i, hi => by
    simp only [befAll, Bool.and_eq_true] at h
    rcases List.mem_cons.1 hi with rfl | hm
    · exact h.1
    · exact befAll_spec h.2 i hm
theorem pairsBut_spec {M : List Nat} {z : Nat} : ∀ {As : List (Nat × AW)} {pre : List Nat}, pairsBut M z pre As = true → (∀ (m : Nat) (p : Nat × AW), As[m]? = some p → p.1 ≠ z → ∀ i, i ∈ pre → bef M i p.1 = true) ∧
    ∀ (m1 m2 : Nat) (p1 p2 : Nat × AW), m1 < m2 → As[m1]? = some p1 → As[m2]? = some p2 → p2.1 ≠ z → bef M p1.1 p2.1 = true
  | [], pre, h => ⟨fun m p hp => by simp at hp, fun m1 m2 p1 p2 _ h1 => by simp at h1⟩
  | (j, x) :: l, pre, h => by
    simp only [pairsBut, Bool.and_eq_true, Bool.or_eq_true] at h
    obtain ⟨a, b⟩ := pairsBut_spec h.2
    refine ⟨fun m p hp hz i hi => ?_, fun m1 m2 p1 p2 hlt h1 h2 hz => ?_⟩
    · cases m with
      | zero =>
        simp at hp; subst hp
        rcases h.1 with e | e
        · exact absurd (beq_true e) hz
        · exact befAll_spec e i hi
      | succ m => exact a m p (by simpa using hp) hz i (List.mem_cons_of_mem _ hi)
    · cases m2 with
      | zero => omega
      | succ m2 =>
        have h2 : l[m2]? = some p2 := by simpa using h2
        cases m1 with
        | zero =>
          simp at h1; subst h1
          exact a m2 p2 h2 hz j (by simp)
        | succ m1 => exact b m1 m2 p1 p2 (by omega) (by simpa using h1) h2 hz
theorem preOf_spec {z : Nat} : ∀ {As : List (Nat × AW)} {m m' : Nat} {p : Nat × AW}, m' < m → As[m']? = some p → (∀ (q : Nat) (r : Nat × AW), q < m → As[q]? = some r → r.1 ≠ z) → p.1 ∈ preOf z As
  | [], m, m', p, _, h, _ => by simp at h
  | (i, x) :: l, m, m', p, hlt, h, hn => by
    have h0 : i ≠ z := hn 0 (i, x) (by omega) rfl
    have hb : Nat.beq i z = false := by
      cases hb : Nat.beq i z with
      | false => rfl
      | true => exact absurd (beq_true hb) h0
    simp only [preOf, hb]
    cases m' with
    | zero => simp at h; subst h; exact List.mem_cons_self ..
    | succ m' =>
      refine List.mem_cons_of_mem _ (preOf_spec (m := m - 1) (m' := m') (by omega) (by simpa using h) fun q r hq hr => hn (q + 1) r (by omega) (by simpa using hr))
theorem edgeTo_spec {z : Nat} : ∀ {l : List Edge} {e : Edge}, e ∈ l → e.on = z → edgeTo z l = true
  | x :: l, e, h, hz => by
    simp only [edgeTo, Bool.or_eq_true]
    rcases List.mem_cons.1 h with rfl | hm
    · left; rw [hz]; exact Nat.beq_refl z
    · exact .inr (edgeTo_spec hm hz)
theorem depsOk_spec {M : List Nat} {z : Nat} {pre : List Nat} : ∀ {l : List Oper} {k : Nat}, depsOk M z pre k l = true → ∀ (j : Nat) (o : Oper), l[j]? = some o → (bef M z (k + j) = true ∨ ∃ e, e ∈ o.after.toList ∧ e.on = z) → ∀ i, i ∈ pre → bef M i (k + j) = true
  | [], k, h, j, o, hj => by simp at hj
  | x :: l, k, h, j, o, hj => by
    simp only [depsOk, Bool.and_eq_true] at h
    cases j with
    | zero =>
      simp at hj; subst hj
      intro hd i hi
      have h1 := h.1
      have : (bef M z k || edgeTo z x.after.toList) = true := by
        rw [Bool.or_eq_true]
        rcases hd with e | ⟨e, a, b⟩
        · exact .inl e
        · exact .inr (edgeTo_spec a b)
      rw [this] at h1
      exact befAll_spec (by simpa using h1) i hi
    | succ j =>
      simp at hj
      have := depsOk_spec h.2 j o hj
      rwa [show k + 1 + j = k + (j + 1) from by omega] at this

/-- What is known of the one operation that may come early. -/
structure Free (ops : Array Oper) (tr : List St) (z m : Nat) (sz : St) (dz : Nat) (x : AW) : Prop where
  at_ : tr[z]? = some sz
  ix : (acts 0 tr)[m]? = some (z, x)
  dst : sz.o.dst = some dz
  new : (∃ t, sz.o.op = .alloc t) ∨ ∃ t len parts, sz.o.op = .buildSlice t len parts
  pairs : ∀ (m1 m2 : Nat) (p1 p2 : Nat × AW), m1 < m2 → (acts 0 tr)[m1]? = some p1 → (acts 0 tr)[m2]? = some p2 → p2.1 ≠ z → bef (masks ops.toList []) p1.1 p2.1 = true
  deps : ∀ (j : Nat) (o : Oper), ops.toList[j]? = some o → (bef (masks ops.toList []) z j = true ∨ ∃ e, e ∈ o.after.toList ∧ e.on = z) → ∀ (m1 : Nat) (p : Nat × AW), m1 < m → (acts 0 tr)[m1]? = some p → bef (masks ops.toList []) p.1 j = true
theorem free_of (T : Trace P call ops tr F0 F' h0 h') : ∀ {l : List (Nat × AW)}, (∀ p, p ∈ l → p ∈ acts 0 tr) → freeAny ops.toList (masks ops.toList []) (acts 0 tr) l = true → ∃ z m sz dz x, Free ops tr z m sz dz x
  | [], _, h => by simp [freeAny] at h
  | (z, x) :: l, hm, h => by
    simp only [freeAny, Bool.or_eq_true] at h
    rcases h with h | h
    · obtain ⟨m, hmm⟩ := List.mem_iff_getElem?.1 (hm (z, x) (by simp))
      obtain ⟨_, ⟨sz, h1, h2⟩, _⟩ := acts_at tr 0 m z x hmm
      rw [Nat.sub_zero] at h1
      have hoz := (T.at_ z sz h1).1
      unfold freeOne at h
      simp only [Bool.and_eq_true] at h
      obtain ⟨⟨e1, e2⟩, e3⟩ := h
      have hn : (∃ dz, sz.o.dst = some dz) ∧ ((∃ t, sz.o.op = .alloc t) ∨ ∃ t len parts, sz.o.op = .buildSlice t len parts) := by
        unfold isNew at e1
        rw [hoz] at e1
        simp only at e1
        split at e1
        · rename_i t ht; exact ⟨Option.isSome_iff_exists.1 e1, .inl ⟨t, ht⟩⟩
        · rename_i t len parts ht; exact ⟨Option.isSome_iff_exists.1 e1, .inr ⟨t, len, parts, ht⟩⟩
        · cases e1
      obtain ⟨⟨dz, hd⟩, hnew⟩ := hn
      refine ⟨z, m, sz, dz, x, h1, hmm, hd, hnew, (pairsBut_spec e2).2, fun j o hj hd m1 p hlt hp => ?_⟩
      have := depsOk_spec (k := 0) e3 j o hj (by rwa [Nat.zero_add]) p.1 (preOf_spec hlt hp fun q r hq hr e => ?_)
      · rwa [Nat.zero_add] at this
      · obtain ⟨i, y⟩ := r
        simp only at e
        subst e
        have := (acts_at tr 0 q i y hr).2.2.trans (acts_at tr 0 m i x hmm).2.2.symm
        omega
    · exact free_of T (fun p hp => hm p (List.mem_cons_of_mem _ hp)) h

/-- The one operation has come early: its block is there, and nobody knows of it. -/
def Early (P : Program) (B0 : Zn) (w0 : World) (ops : Array Oper) (tr : List St) (h0 : AW) (F0 : Fr) (z m : Nat) (sz : St) (dz : Nat) (ψ : Map) (listed : Array Bool) (k : Nat) (a : Act) (w : World) : Prop :=
  ∃ B1 w1 l0 a0 v', listed = l0.setIfInBounds z true ∧ l0[z]? = some false ∧ a = a0.put (some dz) v' ∧ Inv P B1 w1 ops tr h0 F0 ψ l0 k a0 w ∧ k < m ∧ (∀ e, e ∈ sz.o.after.toList → Region.binds .any e = true → l0[e.on]? = some true) ∧
    ∀ ψ' W, ψ.le ψ' → HRel B1 w1 ψ' (hAt h0 (acts 0 tr) m) W → ∃ ψ'', ψ'.le ψ'' ∧ VRel ψ'' sz.v v' ∧ HRel B0 w0 ψ'' (hAt h0 (acts 0 tr) (m + 1)) W

theorem drawn_free (hcall : ∀ B w, CallOk P B w call) (hok : opersOk P.globals.size ops.toList = true) (S : Static ops.toList) (T : Trace P call ops tr F0 F' h0 h') {z m : Nat} {sz : St} {dz : Nat} {xz : AW} (Z : Free ops tr z m sz dz xz)
    (hst : stsOk P (masks ops.toList []) h0 (acts 0 tr) 0 0 tr = true) {Q : Exit → Act → World → Prop} {φ : Map} {a0 : Act}
    (hQ : ∀ ψ a' w', φ.le ψ → FRel ψ F' a' → HRel B0 w0 ψ h' w' → a'.defers = a0.defers → Q .normal a' w') :
    ∀ (fuel : Nat) (listed : Array Bool) (k : Nat) (ψ : Map) (a : Act) (w : World), Inv P B0 w0 ops tr h0 F0 ψ listed k a w ∨ Early P B0 w0 ops tr h0 F0 z m sz dz ψ listed k a w → unl listed ≤ fuel → φ.le ψ → a.defers = a0.defers → wpAny P .any ops Q fuel listed a w := by
  have hdef : ∀ (a : Act) d v, (a.put d v).defers = a.defers := fun a d v => by cases d <;> rfl
  obtain ⟨hoz, hzspec, hzn⟩ := T.at_ z sz Z.at_
  have hlt : ∀ (i : Nat) (s : St), tr[i]? = some s → i < ops.size := fun i s hi => by
    have : i < tr.length := by
      rcases Nat.lt_or_ge i tr.length with hx | hx
      · exact hx
      · rw [List.getElem?_eq_none hx] at hi; cases hi
    rw [T.len] at this; simpa using this
  have same : ∀ {q i : Nat} {y : AW} {q' : Nat} {y' : AW}, (acts 0 tr)[q]? = some (i, y) → (acts 0 tr)[q']? = some (i, y') → q = q' := fun hq hq' => (acts_at tr 0 _ _ _ hq).2.2.trans (acts_at tr 0 _ _ _ hq').2.2.symm
  have actIn : ∀ {q : Nat}, q < m → ∃ i y, (acts 0 tr)[q]? = some (i, y) ∧ i ≠ z := by
    intro q hq
    have hml : m < (acts 0 tr).length := (List.getElem?_eq_some_iff.1 Z.ix).1
    obtain ⟨⟨i, y⟩, hi⟩ : ∃ p, (acts 0 tr)[q]? = some p := ⟨_, List.getElem?_eq_getElem (by omega)⟩
    refine ⟨i, y, hi, ?_⟩
    rintro rfl
    have := same hi Z.ix
    omega
  have esize : ∀ {listed : Array Bool} {k : Nat} {ψ : Map} {a : Act} {w : World}, Inv P B0 w0 ops tr h0 F0 ψ listed k a w ∨ Early P B0 w0 ops tr h0 F0 z m sz dz ψ listed k a w → listed.size = ops.size := by
    rintro listed k ψ a w (I | ⟨B1, w1, l0, b0, v', rfl, _, _, I, _⟩)
    · exact I.size
    · rw [Array.size_setIfInBounds]; exact I.size
  have fin : ∀ (listed : Array Bool) (k : Nat) (ψ : Map) (a : Act) (w : World), Inv P B0 w0 ops tr h0 F0 ψ listed k a w ∨ Early P B0 w0 ops tr h0 F0 z m sz dz ψ listed k a w → φ.le ψ → a.defers = a0.defers → Region.ready .any ops listed = [] → Q .normal a w := by
    intro listed k ψ a w St hle hd hr
    have hall : ∀ i, i < ops.size → listed[i]? = some true := fun i hi => all_listed (esize St) S hr (i + 1) i (by omega) hi
    rcases St with I | ⟨B1, w1, l0, b0, v', rfl, hzl, rfl, I, hkm, _, _⟩
    · refine hQ ψ a w hle ⟨by rw [I.n, T.n], fun t => ?_⟩ ?_ hd
      · rcases T.fin t with ⟨i, si, a1, a2, a3⟩ | ⟨b1, b2⟩
        · rw [a3]; exact I.vals i si a1 (hall i (hlt i si a1)) t a2
        · rw [b2]; exact I.rest t fun i si hi _ => b1 i si hi
      · have hk : k = (acts 0 tr).length := by
          rcases Nat.lt_or_ge k (acts 0 tr).length with hx | hx
          · obtain ⟨⟨i, x⟩, hix⟩ : ∃ p, (acts 0 tr)[k]? = some p := ⟨_, List.getElem?_eq_getElem hx⟩
            obtain ⟨_, ⟨s, a1, _⟩, _⟩ := acts_at tr 0 k i x hix
            have := (I.kth k i x hix).1 (hall i (hlt i s (by simpa using a1)))
            omega
          · exact Nat.le_antisymm I.kle hx
        rw [T.last, ← hk]
        exact I.heap
    · exfalso
      obtain ⟨i, y, hi, hne⟩ := actIn hkm
      obtain ⟨_, ⟨s, a1, _⟩, _⟩ := acts_at tr 0 k i y hi
      have h1 := hall i (hlt i s (by simpa using a1))
      rw [Array.getElem?_setIfInBounds_ne (Ne.symm hne)] at h1
      have := (I.kth k i y hi).1 h1
      omega
  intro fuel
  induction fuel with
  | zero =>
    intro listed k ψ a w St hu hle hd
    have hr : Region.ready .any ops listed = [] := by
      cases hx : Region.ready .any ops listed with
      | nil => rfl
      | cons i l =>
        have := (ready_spec (esize St) (i := i) (by rw [hx]; simp)).1
        have := unl_set this
        omega
    exact ⟨hr, fin listed k ψ a w St hle hd hr⟩
  | succ fuel ih =>
    intro listed k ψ a w St hu hle hd
    refine ⟨fin listed k ψ a w St hle hd, fun j hj => ?_⟩
    obtain ⟨hnl, o, ho, hre⟩ := ready_spec (esize St) hj
    have huu := unl_set hnl
    have hol : ops.toList[j]? = some o := by simpa using ho
    obtain ⟨s, hs⟩ : ∃ s, tr[j]? = some s := by
      have : j < tr.length := by
        rw [T.len]
        rcases Nat.lt_or_ge j ops.toList.length with hx | hx
        · exact hx
        · rw [List.getElem?_eq_none hx] at hol; cases hol
      exact ⟨_, List.getElem?_eq_getElem this⟩
    obtain ⟨hoj, hspec, hsn⟩ := T.at_ j s hs
    rw [hol] at hoj
    obtain rfl := Option.some.inj hoj
    rcases St with I | ⟨B1, w1, l0, b0, vz, rfl, hzl, rfl, I, hkm, hrz, had⟩
    · -- nothing is pending
      have hidx : ∀ h2, s.act = some h2 → (∃ x, (acts 0 tr)[k]? = some (j, x)) ∨ (j = z ∧ k < m) := by
        intro h2 ha
        obtain ⟨_, hm⟩ := T.hp j s hs
        have hm := hm h2 ha
        generalize (acts 0 (tr.take j)).length = mj at hm
        have hnot : ¬ mj < k := fun hlt => by
          have := (I.kth mj j h2 hm).2 hlt
          rw [hnl] at this; cases this
        rcases Nat.lt_or_ge k mj with hlt2 | hge
        · by_cases hjz : j = z
          · subst hjz
            have := same hm Z.ix
            exact .inr ⟨rfl, by omega⟩
          · exfalso
            have hml : mj < (acts 0 tr).length := (List.getElem?_eq_some_iff.1 hm).1
            obtain ⟨⟨i, x⟩, hix⟩ : ∃ p, (acts 0 tr)[k]? = some p := ⟨_, List.getElem?_eq_getElem (by omega)⟩
            have hb := Z.pairs k mj (i, x) (j, h2) hlt2 hix hm hjz
            have := (I.kth k i x hix).1 (bef_listed S I.down (j + 1) j (by omega) s.o hol hre i hb)
            omega
        · have : mj = k := by omega
          subst this
          exact .inl ⟨h2, hm⟩
      by_cases hnow : ∀ h2, s.act = some h2 → ∃ x, (acts 0 tr)[k]? = some (j, x)
      · refine exec_one (hcall _ _) hok S T hst I hs hre hnl (fun t _ => rfl) hnow fun ψ' v' w' k' hle' hv hk H' => ?_
        exact ih _ k' ψ' _ w' (.inl (I.step S T hs hre hnl hle' hv hk H')) (by omega) (Map.le_trans hle hle') ((hdef _ _ _).trans hd)
      · -- it comes early
        obtain ⟨h2, ha, hno⟩ : ∃ h2, s.act = some h2 ∧ ¬ ∃ x, (acts 0 tr)[k]? = some (j, x) := by
          rcases hc : s.act with _ | h2
          · exact absurd (fun h2 e => by rw [hc] at e; cases e) hnow
          · refine ⟨h2, rfl, fun hx => hnow fun _ _ => hx⟩
        obtain ⟨hjz, hkm⟩ := (hidx h2 ha).resolve_left hno
        subst hjz
        obtain rfl : s = sz := Option.some.inj (hs.symm.trans Z.at_)
        obtain ⟨hwt, hact2⟩ := hspec.turn h2 ha
        obtain ⟨hsh, hmm⟩ := T.hp j s hs
        have hmm := hmm h2 ha
        generalize (acts 0 (tr.take j)).length = mj at hsh hmm
        obtain rfl := same hmm Z.ix
        have hreads := I.reads S T hs hre hnl
        have hops := opersOk_spec hok s.o (List.mem_of_getElem? hol)
        have hrev : Rev ψ s.F a.eval s.o.op.operands.toList := rev_of hops I.glob fun t ht => hreads t (List.mem_append_left _ ht)
        have hwant := guard_ok' (ops := ops) (o := s.o) (a := a) (fun g want og d h1 h2 h3 => hreads d (by
          unfold readsOf
          refine List.mem_append_right _ ?_
          rw [h1]
          simp only [h2, h3, List.mem_singleton])) hspec.guard
        have hA : opA P s.F s.h s.o.op = some (s.v, h2) := by
          have := hact2
          unfold actV at this
          rcases Z.new with ⟨t, e⟩ | ⟨t, len, parts, e⟩
          · rw [e] at this ⊢; exact this
          · rw [e] at this ⊢; exact this
        obtain ⟨i, h1, cells, cells', e, f, hn, htag, hl, hvv, hrun⟩ := new_run (P := P) Z.new hrev hA
        unfold wpOp
        rw [ho]
        simp only
        rw [hwant, hwt, if_pos rfl]
        refine .inl ?_
        unfold Oper.wp
        rw [hrun, Oper.upon_value, Z.dst]
        refine ih _ k ψ _ _ (.inr ⟨_, _, listed, a, f w.heap.size, rfl, hnl, rfl, ⟨I.size, I.down, I.kle, I.kth, I.heap.skip _, I.glob, I.n, I.vals, I.rest⟩, hkm, hre, fun ψ' W hle' H' => ?_⟩) (by omega) hle ((hdef _ _ _).trans hd)
        rw [hsh] at hn
        obtain ⟨ψ'', l1, l2, l3⟩ := H'.adopt I.heap.base (I.heap.below.alloc I.heap.inn _) (fun _ h => .inl h) (fun _ h => h) (b := w.heap.size) (.inr rfl) I.heap.newZ (fun k => by rw [cell_new]; simp) (fun k => hard_alloc_new _ _ _ _) hn (hl.mono hle')
        refine ⟨ψ'', l1, hvv _ _ l2, ?_⟩
        rw [hAt_succ _ _ _ _ hmm]
        rcases htag with rfl | rfl
        · exact l3
        · refine l3.tag (l3.dom _ _ l2) fun b σ κ e' => ?_
          rw [l2] at e'
          cases e'
          have := H'.below.block w.heap.size (.inr rfl)
          exact ⟨_, _, this.trans (heap_alloc_new _ _)⟩
    · -- it is pending
      have hzs : z < l0.size := by
        rcases Nat.lt_or_ge z l0.size with hx | hx
        · exact hx
        · rw [Array.getElem?_eq_none hx] at hzl; cases hzl
      have hjz : j ≠ z := by
        rintro rfl
        have : (l0.setIfInBounds j true)[j]? = some true := (lst_set hzs j).2 (.inl rfl)
        rw [hnl] at this; cases this
      have hnl0 : l0[j]? = some false := by rwa [Array.getElem?_setIfInBounds_ne (Ne.symm hjz)] at hnl
      have down : ∀ (i : Nat) (oi : Oper), ops.toList[i]? = some oi → (l0.setIfInBounds z true)[i]? = some true → ∀ e, e ∈ oi.after.toList → Region.binds .any e = true → (l0.setIfInBounds z true)[e.on]? = some true := by
        intro i oi hi hl e he hb
        rw [lst_set hzs] at hl ⊢
        rcases hl with rfl | hl
        · rw [hoz] at hi; cases hi
          exact .inr (hrz e he hb)
        · exact .inr (I.down i oi hi hl e he hb)
      obtain ⟨ik, yk, hik, hikz⟩ := actIn hkm
      have nodep : ¬ (bef (masks ops.toList []) z j = true ∨ ∃ e, e ∈ s.o.after.toList ∧ e.on = z) := by
        intro hd
        have hb := Z.deps j s.o hol hd k (ik, yk) hkm hik
        have := bef_listed S down (j + 1) j (by omega) s.o hol hre ik hb
        rw [lst_set hzs] at this
        have := (I.kth k ik yk hik).1 (this.resolve_left hikz)
        omega
      have hre0 : ∀ e, e ∈ s.o.after.toList → Region.binds .any e = true → l0[e.on]? = some true := by
        intro e he hb
        have := hre e he hb
        rw [lst_set hzs] at this
        exact this.resolve_left fun h => nodep (.inr ⟨e, he, h⟩)
      have hdz : dz ∉ readsOf ops.toList s.o := by
        intro hm
        obtain ⟨h1, h2⟩ := (S.pair z j sz.o s.o hoz hol (Ne.symm hjz) dz Z.dst).2 hm
        rcases Nat.lt_or_ge z j with hlt2 | hge
        · exact nodep (.inl (h1 hlt2))
        · have hb := h2 (by omega)
          have := bef_listed S I.down (z + 1) z (by omega) sz.o hoz hrz j hb
          rw [hnl0] at this; cases this
      have hdj : s.o.dst ≠ some dz := (S.pair z j sz.o s.o hoz hol (Ne.symm hjz) dz Z.dst).1
      have hroom : ∀ x : Nat, (some dz : Option Tmp) = some x → x < b0.tmps.size := fun x hx => by
        have := hzspec.room x (by rw [Z.dst]; exact hx)
        rw [hzn] at this; rw [I.n]; exact this
      have hea : ∀ t, t ∈ readsOf ops.toList s.o → (b0.put (some dz) vz).eval (.tmp t) = b0.eval (.tmp t) := by
        intro t ht
        rw [eval_put hroom, if_neg (fun e => hdz (by cases e; exact ht))]
      have hact : ∀ h2, s.act = some h2 → ∃ x, (acts 0 tr)[k]? = some (j, x) := by
        intro h2 ha
        obtain ⟨_, hm⟩ := T.hp j s hs
        have hm := hm h2 ha
        generalize (acts 0 (tr.take j)).length = mj at hm
        have hnot : ¬ mj < k := fun hlt => by
          have := (I.kth mj j h2 hm).2 hlt
          rw [hnl0] at this; cases this
        rcases Nat.lt_or_ge k mj with hlt2 | hge
        · exfalso
          have hb := Z.pairs k mj (ik, yk) (j, h2) hlt2 hik hm hjz
          have := (I.kth k ik yk hik).1 (bef_listed S I.down (j + 1) j (by omega) s.o hol hre0 ik hb)
          omega
        · have : mj = k := by omega
          subst this
          exact ⟨h2, hm⟩
      refine exec_one (hcall _ _) hok S T hst I hs hre0 hnl0 hea hact fun ψ' v' w' k' hle' hv hk H' => ?_
      have I' := I.step S T hs hre0 hnl0 hle' hv hk H'
      have hk' : k' ≤ m := by rcases hk with ⟨_, rfl⟩ | ⟨_, _, rfl⟩ <;> omega
      have hjs : j < l0.size := by
        rcases Nat.lt_or_ge j l0.size with hx | hx
        · exact hx
        · rw [Array.getElem?_eq_none hx] at hnl0; cases hnl0
      have hrz' : ∀ e, e ∈ sz.o.after.toList → Region.binds .any e = true → (l0.setIfInBounds j true)[e.on]? = some true := fun e he hb => (lst_set hjs _).2 (.inr (hrz e he hb))
      have hzl' : (l0.setIfInBounds j true)[z]? = some false := by rw [Array.getElem?_setIfInBounds_ne hjz]; exact hzl
      have hput : (b0.put (some dz) vz).put s.o.dst v' = (b0.put s.o.dst v').put (some dz) vz := put_comm hdj
      have hls : (l0.setIfInBounds z true).setIfInBounds j true = (l0.setIfInBounds j true).setIfInBounds z true := Array.setIfInBounds_comm _ _ (Ne.symm hjz)
      have hfu : unl ((l0.setIfInBounds z true).setIfInBounds j true) ≤ fuel := by omega
      have hdd : ((b0.put (some dz) vz).put s.o.dst v').defers = a0.defers := (hdef _ _ _).trans hd
      rw [hput] at hdd ⊢
      rw [hls] at hfu ⊢
      rcases Nat.lt_or_ge k' m with hlt2 | hge
      · exact ih _ k' ψ' _ w' (.inr ⟨B1, w1, _, _, vz, rfl, hzl', rfl, I', hlt2, hrz', fun ψ2 W l H2 => had ψ2 W (Map.le_trans hle' l) H2⟩) hfu (Map.le_trans hle hle') hdd
      · have hkm' : k' = m := by omega
        rw [hkm'] at I' H'
        obtain ⟨ψ'', l1, l2, l3⟩ := had ψ' w' hle' H'
        have I2 := I'.step S T Z.at_ hrz' hzl' l1 l2 (.inr ⟨xz, Z.ix, rfl⟩) l3
        rw [Z.dst] at I2
        exact ih _ (m + 1) ψ'' _ w' (.inl I2) hfu (Map.le_trans hle (Map.le_trans hle' l1)) hdd

theorem drawn_ok (call : FuncId → List Value → AW → Option (Value × AW)) (hcall : ∀ B0 w0, CallOk P B0 w0 call) (B0 : Zn) (w0 : World) : DrawnOk P B0 w0 call := by
  intro ops F F' h h' hr hok hmix φ a w hF H hG id Q hQ
  unfold runDrawn at hr
  split at hr
  · cases hr
  · rename_i hs
    split at hr
    · rename_i tr F1 h1 ht
      split at hr
      · rename_i hc
        simp only [Option.some.injEq, Prod.mk.injEq] at hr
        obtain ⟨rfl, rfl⟩ := hr
        rw [Bool.and_eq_true] at hc
        have hnone : ∀ i, (Array.replicate ops.size false)[i]? ≠ some true := fun i e => by
          rw [Array.getElem?_replicate] at e
          split at e <;> cases e
        have I0 : Inv P B0 w0 ops tr h F φ (Array.replicate ops.size false) 0 a w.drew := by
          refine ⟨by simp, fun j oj _ hl => absurd hl (hnone j), Nat.zero_le _, fun m i x _ => ⟨fun hl => absurd hl (hnone i), fun hl => by omega⟩, ?_, hG, hF.1, fun j s _ hl => absurd hl (hnone j), fun t _ => hF.2 t⟩
          rw [hAt_zero]; exact H.drew
        have hu : unl (Array.replicate ops.size false) ≤ ops.size := by
          unfold unl
          rw [Array.toList_replicate, List.countP_replicate]
          simp
        have hord := hc.1
        unfold orderedOk at hord
        rw [Bool.or_eq_true] at hord
        rcases hord with h1 | h1
        · exact wp_region_any hmix (drawn_any (hcall B0 w0) hok (static_of hs) (trace_of ht) h1 hc.2 hQ ops.size (Array.replicate ops.size false) 0 φ a _ I0 hu φ.le_refl rfl)
        · obtain ⟨z, m, sz, dz, x, Z⟩ := free_of (trace_of ht) (fun _ h => h) h1
          exact wp_region_any hmix (drawn_free hcall hok (static_of hs) (trace_of ht) Z hc.2 hQ ops.size (Array.replicate ops.size false) 0 φ a _ (.inl I0) hu φ.le_refl rfl)
      · cases hr
    · cases hr

theorem calls_ok (n : Nat) : CallOk P B0 w0 (callF P n) := callF_ok (fun _ h => drawn_ok _ h) n B0 w0

end Go.Abs
end

section
/- What a run of a function without parameters gives its row. -/
open Go.RowKit
namespace Go.Abs
open Go.ChangeShapes

section
variable {H : Type} {enc : TypeId × Value → H} {P : Program}

end

end Go.Abs
end

section
/- Package variables that are tables of integers: laid into the deterministic heap as they stand. -/
open Go.RowKit
namespace Go.Abs
open Go.ChangeShapes

structure Tab where
  g : Nat
  k : IntKind
  zs : List Int

def Tab.obj (t : Tab) : AObj := .var (T.ofList (t.zs.map fun z => Value.int t.k z)) t.zs.length true

theorem shaped_size {P : Program} {W : World} (hlow : Nat.ble (P.globals.size + 1) (begin P (fun _ _ => 0) default).world.heap.size = true) (hsh : W.ShapedOpen P) : P.globals.size ≤ W.heap.size := by
  obtain ⟨o, _, ho, _⟩ := hsh.2 P.globals.size (Nat.le_refl _) (Nat.le_of_ble_eq_true hlow)
  rcases Nat.lt_or_ge W.heap.size P.globals.size with hx | hx
  · rw [Array.getElem?_eq_none (Nat.le_of_lt hx)] at ho; cases ho
  · exact hx

end Go.Abs
end

section
/- What a function's arguments are in the deterministic heap: all that stood when the call began may be read. -/
open Go.RowKit
namespace Go.Abs
open Go.ChangeShapes

/-- A value as the deterministic heap sees it: an empty slice without room lies nowhere. -/
def norm (S : Nat) : Value → Value
  | .slice (some _) 0 0 => .slice (some ⟨S, 0, none⟩) 0 0
  | v => v
def argMap (S : Nat) : Map := fun i => if i < S then some (i, 0, 0) else if i = S then some (0, 0, 0) else none
def T.ofFn {α : Type} (g : Nat → Option α) : Nat → T α
  | 0 => .nil
  | n + 1 => match g n with
    | some a => (T.ofFn g n).set n a
    | none => T.ofFn g n
theorem T.get?_ofFn {α : Type} (g : Nat → Option α) : ∀ (n m : Nat), (T.ofFn g n).get? m = if m < n then g m else none
  | 0, m => by simp [T.ofFn, T.get?]
  | n + 1, m => by
    have ih := T.get?_ofFn g n m
    unfold T.ofFn
    split
    · rename_i a ha
      rw [T.get?_set]
      by_cases e : m = n
      · subst e; rw [if_pos rfl, if_pos (by omega), ha]
      · rw [if_neg e, ih]
        by_cases hl : m < n
        · rw [if_pos hl, if_pos (by omega)]
        · rw [if_neg hl, if_neg (by omega)]
    · rename_i ha
      rw [ih]
      by_cases e : m = n
      · subst e; rw [if_neg (by omega), if_pos (by omega), ha]
      · by_cases hl : m < n
        · rw [if_pos hl, if_pos (by omega)]
        · rw [if_neg hl, if_neg (by omega)]
open Classical in
noncomputable def seen (W : World) (b off : Nat) : Option Value :=
  match W.cell? ⟨b, off, none⟩ with
  | some v => if VRel (argMap W.heap.size) (norm W.heap.size v) v then some (norm W.heap.size v) else none
  | none => none
def cellsIn (W : World) (b : Nat) : Nat := match W.heap[b]? with
  | some (.cells c _ _) => c.size
  | _ => 0
noncomputable def mir (W : World) : AW :=
  ⟨W.heap.size + 1, T.ofFn (fun b => some (.var (T.ofFn (seen W b) (cellsIn W b)) (cellsIn W b) true)) W.heap.size, .nil, .nil, .nil⟩
theorem seen_some {W : World} {b off : Nat} {v : Value} (h : seen W b off = some v) : ∃ v', W.cell? ⟨b, off, none⟩ = some v' ∧ VRel (argMap W.heap.size) v v' := by
  unfold seen at h
  split at h
  · rename_i v' hc
    split at h
    · rename_i hr; cases h; exact ⟨v', hc, hr⟩
    · cases h
  · cases h
theorem mir_obj {W : World} {i : Nat} {o : AObj} (h : (mir W).objs.get? i = some o) : i < W.heap.size ∧ o = .var (T.ofFn (seen W i) (cellsIn W i)) (cellsIn W i) true := by
  unfold mir at h
  simp only at h
  rw [T.get?_ofFn] at h
  split at h
  · rename_i hi; exact ⟨hi, (Option.some.inj h).symm⟩
  · cases h
theorem argMap_lt {S i : Nat} (h : i < S) : argMap S i = some (i, 0, 0) := by simp [argMap, h]
theorem mir_rel (W : World) : HRel (Zn.lt W.heap.size) W (argMap W.heap.size) (mir W) W := by
  refine ⟨fun _ h => h, BelowZ.refl _ _, fun i x hx => ?_, fun i o x ho hx => ?_, fun i o ho => ?_, fun i f g lo hi sz cs ho => ?_, fun i j oi oj b σ κ σ' κ' _ hi _ li => ?_, TyR.nil rfl⟩
  · show i < W.heap.size + 1
    unfold argMap at hx
    split at hx
    · omega
    · split at hx
      · omega
      · cases hx
  · obtain ⟨hi, _⟩ := mir_obj ho
    rw [argMap_lt hi] at hx; cases hx; exact hi
  · obtain ⟨hi, rfl⟩ := mir_obj ho
    refine ⟨i, 0, 0, argMap_lt hi, rfl, rfl, fun off v hoff hv => ?_, fun e => (by cases e), fun _ => .inl hi⟩
    rw [T.get?_ofFn, if_pos hoff] at hv
    exact seen_some hv
  · obtain ⟨_, e⟩ := mir_obj ho; cases e
  · obtain ⟨_, rfl⟩ := mir_obj hi; cases li
theorem mir_rd {W : World} {b off : Nat} {v : Value} (hc : W.cell? ⟨b, off, none⟩ = some v) (hv : VRel (argMap W.heap.size) (norm W.heap.size v) v) : (mir W).rd b off = some (norm W.heap.size v) := by
  have hb : ∃ c t fr, W.heap[b]? = some (.cells c t fr) ∧ c[off]? = some v := by
    unfold World.cell? at hc
    split at hc
    · rename_i c t fr hh
      exact ⟨c, t, fr, hh, by simpa using hc⟩
    · cases hc
  obtain ⟨c, t, fr, hh, hco⟩ := hb
  have hlt : b < W.heap.size := (Array.getElem?_eq_some_iff.1 hh).1
  have hoff : off < cellsIn W b := by unfold cellsIn; rw [hh]; exact (Array.getElem?_eq_some_iff.1 hco).1
  unfold AW.rd mir
  simp only
  rw [T.get?_ofFn, if_pos hlt]
  simp only
  rw [Nat.ble_eq_true_of_le hoff]
  simp only
  rw [T.get?_ofFn, if_pos hoff]
  unfold seen
  rw [hc]
  simp only
  rw [if_pos hv]

section
variable {H : Type} {enc : TypeId × Value → H} {P : Program} {W : World}

/-- Names of all that may be read at the start: one name. -/
def argStore (l : List (Option Addr × List Value)) : Store := fun c => if c = 0 then some (.ro l) else none
theorem arg_own {l : List (Option Addr × List Value)} (hl : ∀ a vs, (a, vs) ∈ l → (a = none ∧ vs = []) ∨ ∃ i off, a = some ⟨i, off, none⟩ ∧ i < W.heap.size + 1 ∧ ∀ j, j < vs.length → (mir W).rd i (off + j) = vs[j]?) : Own (mir W) (fun _ => 0) (argStore l) := by
  refine ⟨⟨1, fun c hc => by unfold argStore; rw [if_neg (by omega)]⟩, fun c r hc => ?_⟩
  unfold argStore at hc
  split at hc
  · rename_i e; subst e
    cases hc
    intro a vs hm
    rcases hl a vs hm with x | ⟨i, off, e, hi, hr⟩
    · exact .inl x
    · refine .inr ⟨i, off, e, hi, rfl, fun f g lo hi z t ho => ?_, hr⟩
      obtain ⟨_, e⟩ := mir_obj ho; cases e
  · cases hc

/-- A law whose arguments read behind the call as they read before. -/
theorem post_args {f : Func} {s : ChangeSpec} {apart handsOn : Bool} {args : Array Value} {t : TypeId} {ds gs : List (DataW H)} {before : List MemPlace} {W' : World} (hlaid : laidOutB P = true)
    (hparams : ∀ t', t' ∈ f.params.toList → P.readableRec t' = true ∧ t' < P.types.size) (hr : f.resultTypes = #[t]) (ht : P.underlying t = some .bool) (hv : s.vars = [])
    (hs : ∀ (K : Type) (ds : List (DataW K)), ds.length = f.params.size → (s.fn K ds).results = [.lit (.bool true)] ∧ (s.fn K ds).args = ds ∧ (s.fn K ds).vars = []) (hW : DataW.Whole enc P f.params.toList s.vars apart W args.toList ds gs before) (hB : Below W.heap.size W W') :
    s.post enc P f apart true handsOn false W args (.bool true) W' := by
  have hW' := hW
  have hlt := hW.lt
  obtain ⟨p, q, hA, hV, rfl, hfz, hnd⟩ := hW
  rw [hv] at hV
  obtain ⟨rfl, rfl⟩ := trodVars_none hV
  have hlen : ∀ {ts : List TypeId} {vs : List Value} {ds : List (DataW H)} {ps : List MemPlace}, DataW.TrodAll enc P W 0 (fun _ => true) true ts vs ds ps → ds.length = ts.length := by
    intro ts
    induction ts with
    | nil => intro vs ds ps h; obtain ⟨_, rfl, _⟩ := trodAll_nil h; rfl
    | cons t ts ih => intro vs ds ps h; obtain ⟨v, vs1, d, ds1, a, b, rfl, rfl, rfl, _, h2⟩ := trodAll_cons h; simp [ih h2]
  obtain ⟨h1, h2, h3⟩ := hs H ds (by rw [hlen hA]; simp)
  have stays : ∀ {ts : List TypeId} {vs : List Value} {ds : List (DataW H)} {ps : List MemPlace}, (∀ t', t' ∈ ts → P.readableRec t' = true ∧ t' < P.types.size) → (∀ x ∈ ps, x.block < W.heap.size) → DataW.TrodAll enc P W 0 (fun _ => true) true ts vs ds ps → DataW.TrodAll enc P W' 0 (fun b => decide (b < W.heap.size)) true ts vs ds ps := by
    intro ts
    induction ts with
    | nil => intro vs ds ps _ _ h; obtain ⟨rfl, rfl, rfl⟩ := trodAll_nil h; exact rfl
    | cons t ts ih =>
      intro vs ds ps hp hb h
      obtain ⟨v, vs1, d, ds1, a, b, rfl, rfl, rfl, ha, hb2⟩ := trodAll_cons h
      refine ⟨a, b, Below.trod hlaid (hp t (by simp)).1 (hp t (by simp)).2 ha hB (fun x hx => hb x (List.mem_append_left _ hx)), ih (fun t' h' => hp t' (by simp [h'])) (fun x hx => hb x (List.mem_append_right _ hx)) hb2, rfl⟩
  have hres : ∀ (b : Nat) (sp : Nat → Bool) (hd : Bool), DataW.TrodAll enc P W' b sp hd f.resultTypes.toList ((Value.bool true).resultList f.resultTypes.size) [.lit (.bool true)] [] := by
    intro b sp hd
    rw [hr]
    exact trodAll_mk1 (shut_bool ht _)
  refine ⟨ds, [], _, [], p, [], hW', by rw [List.append_nil, h1]; exact hres _ _ _, by rw [List.append_nil, h2]; exact stays hparams (fun x hx => hlt x (by simp [hx])) hA, by rw [List.append_nil, h3, hv]; exact rfl, hB.frame _, fun e => (by cases e)⟩
end

end Go.Abs
end

section
/- Arguments opened: what their reading says of the memory. -/
open Go.RowKit
namespace Go.Abs
open Go.ChangeShapes
section
variable {H : Type} {enc : TypeId × Value → H} {P : Program} {W : World} {fuel : Nat} {t e : TypeId} {cs : List Value} {x : DataW H × List MemPlace} {held : Bool}

theorem cell_block {a : Addr} {v : Value} (h : W.cell? a = some v) : a.block < W.heap.size ∧ a.spot = none := by
  unfold World.cell? at h
  split at h
  · rename_i c t fr hh
    refine ⟨(Array.getElem?_eq_some_iff.1 hh).1, ?_⟩
    split at h
    · cases h
    · rename_i hs; simpa using hs
  · cases h
theorem add_zero (a : Addr) : a.add 0 = a := by simp [Addr.add]
end
end Go.Abs
end

section
/- Lists of statements, and lines of words, that came in as arguments: what they show. -/
open Go.RowKit
namespace Go.Abs
open Go.ChangeShapes
section
variable {H : Type} {enc : TypeId × Value → H} {P : Program} {W : World} {fuel : Nat} {t e : TypeId} {cs : List Value} {x : DataW H × List MemPlace} {held : Bool}
end
end Go.Abs
namespace Go.Abs.Fo
open Go.Abs Go.ChangeShapes
section
variable {H : Type} {enc : TypeId × Value → H} {P : Program} {W : World} {held : Bool}

/-- What may be seen of the memory at the start. -/
def GoodV (W : World) (vs : List (Option Addr × List Value)) : Prop := ∀ a l, (a, l) ∈ vs → ∃ b off, a = some ⟨b, off, none⟩ ∧ b < W.heap.size + 1 ∧ ∀ j, j < l.length → (mir W).rd b (off + j) = l[j]?
def Vin (vs : List (Option Addr × List Value)) (a : Option Addr) (l : List Value) : Prop := (a = none ∧ l = []) ∨ (a, l) ∈ vs
theorem GoodV.app {vs ws : List (Option Addr × List Value)} (h : GoodV W vs) (k : GoodV W ws) : GoodV W (vs ++ ws) := fun a l hm => by
  rcases List.mem_append.1 hm with x | x
  · exact h a l x
  · exact k a l x
theorem GoodV.cons {vs : List (Option Addr × List Value)} {b off : Nat} {l : List Value} (hb : b < W.heap.size + 1) (hr : ∀ j, j < l.length → (mir W).rd b (off + j) = l[j]?) (k : GoodV W vs) : GoodV W ((some ⟨b, off, none⟩, l) :: vs) := fun a l' hm => by
  rcases List.mem_cons.1 hm with x | x
  · cases x; exact ⟨b, off, rfl, hb, hr⟩
  · exact k a l' x
theorem GoodV.nil : GoodV W [] := fun _ _ h => by simp at h
theorem Vin.mono {vs ws : List (Option Addr × List Value)} {a : Option Addr} {l : List Value} (h : Vin vs a l) (hs : ∀ x, x ∈ vs → x ∈ ws) : Vin ws a l := h.imp id fun x => hs _ x
theorem good_own {vs : List (Option Addr × List Value)} (G : GoodV W vs) : Own (mir W) (fun _ => 0) (argStore vs) := arg_own fun a l hm => .inr (G a l hm)
/-- No part of a datum is greater than the machine. -/
abbrev Light (P : Program) (t : TypeId) (d : DataW H) : Prop := ∀ z, z ∈ d.weights P t → z ≤ 140737488351232
theorem light_at {ts : List TypeId} {ds : List (DataW H)} (h : (DataW.weightsEach P ts ds).all (· ≤ reachBytes) = true) {i : Nat} {t : TypeId} {d : DataW H} (h1 : ts[i]? = some t) (h2 : ds[i]? = some d) : Light P t d := by
  intro z hz
  have each : ∀ (ts : List TypeId) (ds : List (DataW H)) (i : Nat), ts[i]? = some t → ds[i]? = some d → z ∈ DataW.weightsEach P ts ds := by
    intro ts
    induction ts with
    | nil => intro ds i h1; simp at h1
    | cons t' ts ih =>
      intro ds i h1 h2
      cases ds with
      | nil => simp at h2
      | cons d' ds =>
        rw [DataW.weightsEach]
        cases i with
        | zero => simp at h1 h2; subst h1 h2; exact List.mem_append_left _ hz
        | succ i => exact List.mem_append_right _ (ih ds i (by simpa using h1) (by simpa using h2))
  have := List.all_eq_true.1 h z (each ts ds i h1 h2)
  have := of_decide_eq_true this
  exact this
variable {tL tE tI tA tS : TypeId} {fs : Array Field}
end
end Go.Abs.Fo
end

section
/- A row with arguments, and with listed package variables, out of what the function comes to. -/
open Go.RowKit
namespace Go.Abs
open Go.ChangeShapes
section
variable {H : Type} {enc : TypeId × Value → H} {P : Program} {f : FuncId} {fn : Func} {s : ChangeSpec} {apart handsOn : Bool} {t : TypeId}

/-- What the model's call does, for a law whose arguments read behind the call as they read before. -/
theorem calls_argsE (hlaid : laidOutB P = true) (hparams : ∀ t', t' ∈ fn.params.toList → P.readableRec t' = true ∧ t' < P.types.size)
    (hr : fn.resultTypes = #[t]) (ht : P.underlying t = some .bool) (hv : s.vars = [])
    (hs : ∀ (K : Type) (ds : List (DataW K)), ds.length = fn.params.size → (s.fn K ds).results = [.lit (.bool true)] ∧ (s.fn K ds).args = ds ∧ (s.fn K ds).vars = [])
    (hlow : Nat.ble (P.globals.size + 1) (begin P (fun _ _ => 0) default).world.heap.size = true)
    {W : World} {args : Array Value} {ds gs : List (DataW H)} {before : List MemPlace} (hW : DataW.Whole enc P fn.params.toList s.vars apart W args.toList ds gs before) (hsh : W.ShapedOpen P)
    (run : ∀ (p : List MemPlace), DataW.TrodAll enc P W 0 (fun _ => true) true fn.params.toList args.toList ds p →
      ∃ avs : List Value, LRel (argMap W.heap.size) avs args.toList ∧ EvQ P f avs (mir W) fun v _ => v = .bool true) :
    Calls P f args W fun e W' => ∃ v, e = .returned v ∧ s.post enc P fn apart true handsOn false W args v W' := by
  have hsz := shaped_size hlow hsh
  have hW0 := hW
  obtain ⟨p, q, hA, _⟩ := hW
  obtain ⟨avs, hrel, v, h', ⟨n, hev⟩, hq⟩ := run _ hA
  subst hq
  rcases calls_ok (B0 := Zn.lt W.heap.size) (w0 := W) n f _ _ _ _ hev with ⟨_, hcalls⟩ | ⟨e2, _⟩
  rotate_left
  · exact absurd rfl (e2.1 _)
  have hglob : Glob P (argMap W.heap.size) := fun g hg => argMap_lt (Nat.lt_of_lt_of_le hg hsz)
  have hargs : (⟨args.toList⟩ : Array Value) = args := by simp
  have := hcalls _ _ _ hrel (mir_rel _) hglob
  rw [hargs] at this
  refine this.mono fun e W' he => ?_
  obtain ⟨ψ, v', _, rfl, hv', HR⟩ := he
  rw [hv'.bool_inv]
  exact ⟨_, rfl, post_args hlaid hparams hr ht hv hs hW0 HR.below.below⟩
end
end Go.Abs
end
