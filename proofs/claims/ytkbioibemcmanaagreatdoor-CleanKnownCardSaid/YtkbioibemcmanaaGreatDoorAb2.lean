/- A deterministic heap for the model, proved sound, and walks of the program over it: part 2. No condition. -/
import Derived.Test.YtkbioibemcmanaaGreatDoorAb1
import Derived.Laws.IdiomCopy
import Derived.Laws.Tables
import Derived.Laws.Strings
import Derived.Laws.StructEq
import Derived.MapKept
import Derived.Laws.BytesString
set_option linter.unusedVariables false
set_option linter.unusedSimpArgs false
set_option linter.unusedSectionVars false
section
/- New blocks, rows of stores, maps: what they do to the relation of the heaps. -/
open Go.RowKit
namespace Go.Abs
variable {B0 : Zn} {w0 : World} {φ : Map} {h h' : AW} {w : World} {P : Program}
theorem HRel.wrL (hp0 : ∀ i, h.objs.get? i = h.objs.get? i) {i b σ κ : Nat} (hp : φ i = some (b, σ, κ)) : ∀ {l l' : List Value} {off k : Nat} {h h' : AW} {w : World}, HRel B0 w0 φ h w → h.wrL i off l = some h' → LRel φ l l' →
    ∀ o, (l ≠ [] → off - σ = o + k ∧ σ ≤ off) → ∃ w', (storeCells ⟨b, o, none⟩ l' k).run P w = .ok () w' ∧ HRel B0 w0 φ h' w' := by
  intro l
  induction l with
  | nil =>
    intro l' off k h h' w H hw hl o _
    have := hl.nil_left; subst this
    simp only [AW.wrL, Option.some.injEq] at hw; subst hw
    exact ⟨w, rfl, H⟩
  | cons v l ih =>
    intro l' off k h h' w H hw hl o ho
    obtain ⟨v', t', rfl, hv, ht⟩ := hl.cons_left
    simp only [AW.wrL] at hw
    split at hw
    · rename_i h1 hw1
      obtain ⟨hs, ⟨u, hu⟩, hf, hone, H1⟩ := H.wr hw1 hv hp
      obtain ⟨ho1, _⟩ := ho (by simp)
      rw [ho1] at hu hf H1
      obtain ⟨w', hr, H'⟩ := ih (k := k + 1) H1 hw ht o (fun _ => ⟨by omega, by omega⟩)
      refine ⟨w', ?_, H'⟩
      have hst : (store ⟨b, o + k, none⟩ v').run P w = .ok () (w.setCell ⟨b, o + k, none⟩ v') := by
        rw [run_store P w _ v' .plain hone]; simp [hu, hf]
      simp only [storeCells, Addr.add_lit, Sem.run_bind, hst, Result.andThen_ok]
      exact hr
    · cases hw
theorem HRel.new (H : HRel B0 w0 φ h w) (o : AObj) (x : Obj) (σ κ nx : Nat) (fams : T Fam) (hnx : h.next < nx)
    (hf : ∀ f, f < h.next → fams.get? f = h.fams.get? f)
    (ho : ORel (φ.add h.next (w.heap.size, σ, κ)) fams B0 (w.alloc x) w.heap.size σ κ o)
    (hfam : ∀ f g lo hi sz cs, o = .row f g lo hi sz cs → f < nx ∧ ∃ fm, fams.get? f = some fm ∧ g ≤ fm.gen) :
    HRel B0 w0 (φ.add h.next (w.heap.size, σ, κ)) { h with next := nx, objs := h.objs.set h.next o, fams := fams } (w.alloc x) ∧ φ.le (φ.add h.next (w.heap.size, σ, κ)) := by
  have hle : φ.le (φ.add h.next (w.heap.size, σ, κ)) := Map.le_add (H.free (Nat.le_refl _))
  have hlive : ∀ i o, h.objs.get? i = some o → live fams o → live h.fams o := by
    intro i o hi hl
    cases o with
    | var a n ro => exact hl
    | map es => trivial
    | row f g lo hi sz cs =>
      obtain ⟨fm, h1, h2⟩ := hl
      rw [hf f (H.fam i _ _ _ _ _ _ hi).1] at h1
      exact ⟨fm, h1, h2⟩
  have hnb : ∀ i o b σ κ, h.objs.get? i = some o → φ i = some (b, σ, κ) → b ≠ w.heap.size := fun i o b σ κ ho hp => Nat.ne_of_lt (H.lt ho hp)
  refine ⟨⟨H.base, H.below.alloc H.inn _, ?_, ?_, ?_, ?_, ?_, H.ty.add (Cast.alloc _ _) rfl (Nat.le_of_lt hnx)⟩, hle⟩
  · intro i y hy
    unfold Map.add at hy
    split at hy
    · rename_i e; subst e; exact hnx
    · have := H.dom i y hy; show i < nx; omega
  · intro i o y hi hy
    simp only [T.get?_set] at hi
    by_cases e : i = h.next
    · subst e
      rw [Map.add_same] at hy; cases hy; simp
    · rw [if_neg e] at hi
      rw [Map.add_ne _ _ e] at hy
      have := H.lto i o y hi hy
      simp; omega
  · intro i oi hi
    simp only [T.get?_set] at hi
    by_cases e : i = h.next
    · subst e
      simp only [if_true, Option.some.injEq] at hi
      subst hi
      exact ⟨_, _, _, Map.add_same _ _ _, ho⟩
    · rw [if_neg e] at hi
      obtain ⟨b, σ2, κ2, hp, hR⟩ := H.obj i oi hi
      refine ⟨b, σ2, κ2, hle _ _ hp, ?_⟩
      have hR2 := (hR.mono hle).same (w' := w.alloc x) (by simp only [World.alloc, Array.getElem?_push]; rw [if_neg (Nat.ne_of_lt (H.lt hi hp))])
      cases oi with
      | var a n ro => exact hR2
      | map es => exact hR2
      | row f g lo hi2 sz cs =>
        intro fm h1 h2
        rw [hf f (H.fam i _ _ _ _ _ _ hi).1] at h1
        exact hR2 fm h1 h2
  · intro i f g lo hi sz cs hi'
    simp only [T.get?_set] at hi'
    by_cases e : i = h.next
    · subst e
      simp only [if_true, Option.some.injEq] at hi'
      exact hfam _ _ _ _ _ _ hi'
    · rw [if_neg e] at hi'
      obtain ⟨h1, fm, h2, h3⟩ := H.fam i _ _ _ _ _ _ hi'
      exact ⟨by show f < nx; omega, fm, by rw [hf f h1]; exact h2, h3⟩
  · intro i j oi oj b σ1 κ1 σ2 κ2 hij hi hj li lj pi pj
    simp only [T.get?_set] at hi hj
    by_cases ei : i = h.next
    · subst ei
      rw [Map.add_same] at pi
      simp only [Option.some.injEq, Prod.mk.injEq] at pi
      rw [Map.add_ne _ _ (Ne.symm hij)] at pj
      rw [if_neg (Ne.symm hij)] at hj
      exact absurd pi.1.symm (hnb j oj b σ2 κ2 hj pj)
    · rw [if_neg ei] at hi
      rw [Map.add_ne _ _ ei] at pi
      by_cases ej : j = h.next
      · subst ej
        rw [Map.add_same] at pj
        simp only [Option.some.injEq, Prod.mk.injEq] at pj
        exact absurd pj.1.symm (hnb i oi b σ1 κ1 hi pi)
      · rw [if_neg ej] at hj
        rw [Map.add_ne _ _ ej] at pj
        exact H.sep i j oi oj b σ1 κ1 σ2 κ2 hij hi hj (hlive i oi hi li) (hlive j oj hj lj) pi pj
theorem HRel.take (H : HRel B0 w0 φ h w) (o : AObj) (b σ κ nx : Nat) (fams : T Fam) (hnx : h.next < nx) (hb : b < w.heap.size) (hnb : ∀ i o x σ κ, h.objs.get? i = some o → φ i = some (x, σ, κ) → x ≠ b)
    (hf : ∀ f, f < h.next → fams.get? f = h.fams.get? f)
    (ho : ORel (φ.add h.next (b, σ, κ)) fams B0 w b σ κ o)
    (hfam : ∀ f g lo hi sz cs, o = .row f g lo hi sz cs → f < nx ∧ ∃ fm, fams.get? f = some fm ∧ g ≤ fm.gen) :
    HRel B0 w0 (φ.add h.next (b, σ, κ)) { h with next := nx, objs := h.objs.set h.next o, fams := fams } w ∧ φ.le (φ.add h.next (b, σ, κ)) := by
  have hle : φ.le (φ.add h.next (b, σ, κ)) := Map.le_add (H.free (Nat.le_refl _))
  have hlive : ∀ i o, h.objs.get? i = some o → live fams o → live h.fams o := by
    intro i o hi hl
    cases o with
    | var a n ro => exact hl
    | map es => trivial
    | row f g lo hi sz cs =>
      obtain ⟨fm, h1, h2⟩ := hl
      rw [hf f (H.fam i _ _ _ _ _ _ hi).1] at h1
      exact ⟨fm, h1, h2⟩
  refine ⟨⟨H.base, H.below, ?_, ?_, ?_, ?_, ?_, H.ty.add (Cast.refl _) rfl (Nat.le_of_lt hnx)⟩, hle⟩
  · intro i y hy
    unfold Map.add at hy
    split at hy
    · rename_i e; subst e; exact hnx
    · have := H.dom i y hy; show i < nx; omega
  · intro i o y hi hy
    simp only [T.get?_set] at hi
    by_cases e : i = h.next
    · subst e
      rw [Map.add_same] at hy; cases hy; exact hb
    · rw [if_neg e] at hi
      rw [Map.add_ne _ _ e] at hy
      exact H.lto i o y hi hy
  · intro i oi hi
    simp only [T.get?_set] at hi
    by_cases e : i = h.next
    · subst e
      simp only [if_true, Option.some.injEq] at hi
      subst hi
      exact ⟨_, _, _, Map.add_same _ _ _, ho⟩
    · rw [if_neg e] at hi
      obtain ⟨b2, σ2, κ2, hp, hR⟩ := H.obj i oi hi
      refine ⟨b2, σ2, κ2, hle _ _ hp, ?_⟩
      have hR2 := hR.mono hle
      cases oi with
      | var a n ro => exact hR2
      | map es => exact hR2
      | row f g lo hi2 sz cs =>
        intro fm h1 h2
        rw [hf f (H.fam i _ _ _ _ _ _ hi).1] at h1
        exact hR2 fm h1 h2
  · intro i f g lo hi sz cs hi'
    simp only [T.get?_set] at hi'
    by_cases e : i = h.next
    · subst e
      simp only [if_true, Option.some.injEq] at hi'
      exact hfam _ _ _ _ _ _ hi'
    · rw [if_neg e] at hi'
      obtain ⟨h1, fm, h2, h3⟩ := H.fam i _ _ _ _ _ _ hi'
      exact ⟨by show f < nx; omega, fm, by rw [hf f h1]; exact h2, h3⟩
  · intro i j oi oj b2 σ1 κ1 σ2 κ2 hij hi hj li lj pi pj
    simp only [T.get?_set] at hi hj
    by_cases ei : i = h.next
    · subst ei
      rw [Map.add_same] at pi
      simp only [Option.some.injEq, Prod.mk.injEq] at pi
      rw [Map.add_ne _ _ (Ne.symm hij)] at pj
      rw [if_neg (Ne.symm hij)] at hj
      exact absurd pi.1.symm (hnb j oj b2 σ2 κ2 hj pj)
    · rw [if_neg ei] at hi
      rw [Map.add_ne _ _ ei] at pi
      by_cases ej : j = h.next
      · subst ej
        rw [Map.add_same] at pj
        simp only [Option.some.injEq, Prod.mk.injEq] at pj
        exact absurd pj.1.symm (hnb i oi b2 σ1 κ1 hi pi)
      · rw [if_neg ej] at hj
        rw [Map.add_ne _ _ ej] at pj
        exact H.sep i j oi oj b2 σ1 κ1 σ2 κ2 hij hi hj (hlive i oi hi li) (hlive j oj hj lj) pi pj
theorem cell_new (w : World) (c : Array Value) (e : TypeId) (k : Nat) : (w.alloc (.cells c e)).cell? ⟨w.heap.size, k, none⟩ = c[k]? := World.cell?_alloc_new w c e k
theorem HRel.newVar (H : HRel B0 w0 φ h w) {cells cells' : List Value} {i : Nat} (hn : h.newVar cells = some (i, h')) (hl : LRel φ cells cells') (e : TypeId) :
    ∃ ψ, φ.le ψ ∧ ψ i = some (w.heap.size, 0, 0) ∧ HRel B0 w0 ψ h' (w.alloc (.cells ⟨cells'⟩ e)) := by
  unfold AW.newVar at hn
  split at hn
  · rename_i h1
    simp only [Option.some.injEq, Prod.mk.injEq] at hn
    obtain ⟨rfl, rfl⟩ := hn
    have hle : φ.le (φ.add h.next (w.heap.size, 0, 0)) := Map.le_add (H.free (Nat.le_refl _))
    have := H.new (.var (T.ofList cells) cells.length false) (.cells ⟨cells'⟩ e) 0 0 (h.next + 1) h.fams (Nat.lt_succ_self _) (fun _ _ => rfl) (by
      refine ⟨rfl, rfl, ?_, fun _ => ⟨H.newZ, fun k hk => ⟨?_, hard_alloc_new _ _ _ _⟩⟩, fun e => by cases e⟩
      · intro k v hk hv
        rw [T.get?_ofList] at hv
        obtain ⟨v', hv', hr⟩ := hl.get hv
        exact ⟨v', by rw [cell_new]; simpa using hv', hr.mono hle⟩
      · obtain ⟨v', hv', _⟩ := hl.get (List.getElem?_eq_getElem hk)
        exact ⟨v', by rw [cell_new]; simpa using hv'⟩) (fun f g lo hi sz cs e => by cases e)
    exact ⟨_, this.2, Map.add_same _ _ _, this.1⟩
  · cases hn
theorem HRel.adopt {B1 : Zn} {w1 : World} (H : HRel B1 w1 φ h w) (hb0 : ∀ k, B0.Z k → k < w0.heap.size) (hbl : BelowZ B0 w0 w1) (hZ : ∀ k, B0.Z k → B1.Z k) (hR : ∀ k, B1.R k → B0.R k) {b : Nat} (hb : B1.Z b) (hbz : ¬ B0.Z b)
    {cells cells' : List Value} {i : Nat} (hc : ∀ k, w1.cell? ⟨b, k, none⟩ = cells'[k]?) (hfz : ∀ k, hard w1 b k = false) (hn : h.newVar cells = some (i, h')) (hl : LRel φ cells cells') :
    ∃ ψ, φ.le ψ ∧ ψ i = some (b, 0, 0) ∧ HRel B0 w0 ψ h' w := by
  unfold AW.newVar at hn
  split at hn
  · rename_i h1
    simp only [Option.some.injEq, Prod.mk.injEq] at hn
    obtain ⟨rfl, rfl⟩ := hn
    have hle : φ.le (φ.add h.next (b, 0, 0)) := Map.le_add (H.free (Nat.le_refl _))
    have hsame := H.below.block b hb
    have hcw : ∀ k, w.cell? ⟨b, k, none⟩ = cells'[k]? := fun k => by rw [← hc k]; simp [World.cell?, hsame]
    have hfw : ∀ k, hard w b k = false := fun k => by rw [← hfz k]; simp [hard, hsame]
    have conv : ∀ {x σ κ : Nat} {o : AObj}, ORel φ h.fams B1 w x σ κ o → ORel (φ.add h.next (b, 0, 0)) h.fams B0 w x σ κ o := by
      intro x σ κ o ho
      have ho := ho.mono hle
      cases o with
      | var cs n ro =>
        obtain ⟨a1, a2, a3, a4, a5⟩ := ho
        exact ⟨a1, a2, a3, fun e => ⟨fun hz => (a4 e).1 (hZ _ hz), (a4 e).2⟩, fun e => (a5 e).imp (hR _) id⟩
      | row f g lo hi sz cs =>
        intro fm h2 h3
        obtain ⟨a1, a2⟩ := ho fm h2 h3
        exact ⟨fun hz => a1 (hZ _ hz), a2⟩
      | map es =>
        obtain ⟨a1, a2, a3, a4⟩ := ho
        exact ⟨a1, a2, fun hz => a3 (hZ _ hz), a4⟩
    have away : ∀ {x σ κ : Nat} {o : AObj}, ORel φ h.fams B1 w x σ κ o → live h.fams o → x ≠ b := by
      rintro x σ κ o ho li rfl
      cases o with
      | var cs n ro => exact (ho.2.2.2.1 li).1 hb
      | row f g lo hi sz cs =>
        obtain ⟨fm, l1, l2⟩ := li
        exact (ho fm l1 l2).1 hb
      | map es => exact ho.2.2.1 hb
    refine ⟨_, hle, Map.add_same _ _ _, ⟨hb0, ?_, ?_, ?_, ?_, ?_, ?_, H.ty.add (Cast.refl _) rfl (Nat.le_succ _)⟩⟩
    · exact hbl.trans ⟨H.below.os, H.below.tape, H.below.output, H.below.size, fun k hk => H.below.block k (hZ k hk)⟩
    · intro j y hy
      unfold Map.add at hy
      split at hy
      · rename_i e; subst e; exact Nat.lt_succ_self _
      · have := H.dom j y hy; show j < h.next + 1; omega
    · intro j o y hj hy
      simp only [T.get?_set] at hj
      by_cases e : j = h.next
      · subst e
        rw [Map.add_same] at hy; cases hy
        exact H.inn b hb
      · rw [if_neg e] at hj
        rw [Map.add_ne _ _ e] at hy
        exact H.lto j o y hj hy
    · intro j oj hj
      simp only [T.get?_set] at hj
      by_cases e : j = h.next
      · subst e
        simp only [if_true, Option.some.injEq] at hj
        subst hj
        refine ⟨_, _, _, Map.add_same _ _ _, rfl, rfl, ?_, fun _ => ⟨hbz, fun k hk => ⟨?_, hfw k⟩⟩, fun e => by cases e⟩
        · intro k v hk hv
          rw [T.get?_ofList] at hv
          obtain ⟨v', hv', hr⟩ := hl.get hv
          exact ⟨v', by rw [hcw]; exact hv', hr.mono hle⟩
        · obtain ⟨v', hv', _⟩ := hl.get (List.getElem?_eq_getElem hk)
          exact ⟨v', by rw [hcw]; exact hv'⟩
      · rw [if_neg e] at hj
        obtain ⟨x, σ, κ, hp, hr⟩ := H.obj j oj hj
        exact ⟨x, σ, κ, hle _ _ hp, conv hr⟩
    · intro j f g lo hi sz cs hj
      simp only [T.get?_set] at hj
      by_cases e : j = h.next
      · subst e
        simp only [if_true, Option.some.injEq] at hj
        cases hj
      · rw [if_neg e] at hj
        obtain ⟨a1, a2⟩ := H.fam j _ _ _ _ _ _ hj
        exact ⟨by show f < h.next + 1; omega, a2⟩
    · intro j1 j2 o1 o2 x σ1 κ1 σ2 κ2 hne g1 g2 l1 l2 p1 p2
      simp only [T.get?_set] at g1 g2
      by_cases e1 : j1 = h.next
      · subst e1
        rw [Map.add_same] at p1
        simp only [Option.some.injEq, Prod.mk.injEq] at p1
        rw [Map.add_ne _ _ (Ne.symm hne)] at p2
        rw [if_neg (Ne.symm hne)] at g2
        obtain ⟨y, σ, κ, hp, hr⟩ := H.obj j2 o2 g2
        rw [p2] at hp; cases hp
        exact absurd p1.1.symm (away hr l2)
      · rw [if_neg e1] at g1
        rw [Map.add_ne _ _ e1] at p1
        by_cases e2 : j2 = h.next
        · subst e2
          rw [Map.add_same] at p2
          simp only [Option.some.injEq, Prod.mk.injEq] at p2
          obtain ⟨y, σ, κ, hp, hr⟩ := H.obj j1 o1 g1
          rw [p1] at hp; cases hp
          exact absurd p2.1.symm (away hr l1)
        · rw [if_neg e2] at g2
          rw [Map.add_ne _ _ e2] at p2
          exact H.sep j1 j2 o1 o2 x σ1 κ1 σ2 κ2 hne g1 g2 l1 l2 p1 p2
  · cases hn
theorem HRel.newRow (H : HRel B0 w0 φ h w) {sz : Nat} {cells cells' rest : List Value} {i : Nat} (hn : h.newRow sz cells = some (i, h')) (hl : LRel φ cells cells') (e : TypeId) (κ : Nat) (hr : rest.length = κ * sz) :
    ∃ ψ, φ.le ψ ∧ ψ i = some (w.heap.size, 0, κ) ∧ HRel B0 w0 ψ h' (w.alloc (.cells ⟨cells' ++ rest⟩ e)) := by
  unfold AW.newRow at hn
  split at hn
  · rename_i h1
    simp only [Option.some.injEq, Prod.mk.injEq] at hn
    obtain ⟨rfl, rfl⟩ := hn
    have hle : φ.le (φ.add h.next (w.heap.size, 0, κ)) := Map.le_add (H.free (Nat.le_refl _))
    have hlen := hl.1
    have := H.new (.row (h.next + 1) 0 0 cells.length sz (T.ofList cells)) (.cells ⟨cells' ++ rest⟩ e) 0 κ (h.next + 2) (h.fams.set (h.next + 1) ⟨0, cells.length, 0⟩) (by omega) (fun f hf => T.get?_set_ne _ _ (by omega)) (by
      intro fm hf _
      rw [T.get?_set_same] at hf
      simp only [Option.some.injEq] at hf
      subst hf
      refine ⟨H.newZ, Nat.le_refl _, Nat.le_refl _, ?_, ?_, fun k _ _ _ => World.frozen?_alloc_new _ _ _ _⟩
      · intro k v _ hk hv
        rw [T.get?_ofList] at hv
        obtain ⟨v', hv', hr⟩ := hl.get hv
        refine ⟨v', ?_, hr.mono hle⟩
        rw [cell_new, Nat.sub_zero]
        simp only [List.getElem?_toArray]
        rw [List.getElem?_append_left (by omega)]; exact hv'
      · intro k _ hk
        refine ⟨(cells' ++ rest)[k]'(by simp; omega), ?_⟩
        rw [cell_new, Nat.sub_zero]
        simp) (fun f g lo hi sz cs e => by cases e; exact ⟨Nat.lt_succ_self _, _, T.get?_set_same _ _ _, Nat.le_refl _⟩)
    exact ⟨_, this.2, Map.add_same _ _ _, this.1⟩
  · cases hn
theorem HRel.exact (H : HRel B0 w0 φ h w) {i : Nat} (hi : i < h.next) (hx : ∀ b σ κ, φ i = some (b, σ, κ) → ExactM w b) : HRel B0 w0 φ { h with its := h.its.set i 2 } w :=
  ⟨H.base, H.below, H.dom, H.lto, H.obj, H.fam, H.sep, H.ty.1, fun j hj => by
    simp only [T.get?_set] at hj
    split at hj
    · cases hj
    · exact H.ty.2.1 j hj, fun j hj => by
    simp only [T.get?_set] at hj
    split at hj
    · rename_i e
      subst e
      exact ⟨hi, hx⟩
    · exact H.ty.2.2 j hj⟩
theorem HRel.newMap (H : HRel B0 w0 φ h w) : ∃ ψ, φ.le ψ ∧ ψ h.newMap.1 = some (w.heap.size, 0, 0) ∧ HRel B0 w0 ψ h.newMap.2 (w.alloc (.map #[] 0)) := by
  have := H.new (.map []) (.map #[] 0) 0 0 (h.next + 1) h.fams (Nat.lt_succ_self _) (fun _ _ => rfl)
    ⟨rfl, rfl, H.newZ, #[], 0, heap_alloc_new w _, L2.nil, MapKept.stamped_empty 0⟩ (fun f g lo hi sz cs e => by cases e)
  refine ⟨_, this.2, Map.add_same _ _ _, ?_⟩
  have hx := this.1.exact (i := h.next) (Nat.lt_succ_self _) (fun b σ κ e => by
    rw [Map.add_same] at e
    cases e
    exact ⟨#[], 0, heap_alloc_new w _, rfl, fun j x e => by simp at e⟩)
  exact hx
theorem HRel.newNone (H : HRel B0 w0 φ h w) (b : Nat) :
    ∃ ψ, φ.le ψ ∧ ψ h.next = some (b, 0, 0) ∧ HRel B0 w0 ψ { h with next := h.next + 1 } w := by
  have hle : φ.le (φ.add h.next (b, 0, 0)) := Map.le_add (H.free (Nat.le_refl _))
  have hne : ∀ i o, h.objs.get? i = some o → i ≠ h.next := fun i o ho e => by
    rw [H.objFree (Nat.le_of_eq e.symm)] at ho; cases ho
  refine ⟨φ.add h.next (b, 0, 0), hle, Map.add_same _ _ _, H.base, H.below, ?_, ?_, ?_, ?_, ?_, H.ty.add (Cast.refl _) rfl (Nat.le_succ _)⟩
  · intro i y hy
    unfold Map.add at hy
    split at hy
    · rename_i e; subst e; exact Nat.lt_succ_self _
    · exact Nat.lt_succ_of_lt (H.dom i y hy)
  · intro i o y hi hy
    rw [Map.add_ne _ _ (hne i o hi)] at hy
    exact H.lto i o y hi hy
  · intro i oi hi
    obtain ⟨b2, σ2, κ2, hp, hR⟩ := H.obj i oi hi
    exact ⟨b2, σ2, κ2, hle _ _ hp, hR.mono hle⟩
  · intro i f g lo hi sz cs hi'
    obtain ⟨h1, h2⟩ := H.fam i _ _ _ _ _ _ hi'; exact ⟨Nat.lt_succ_of_lt h1, h2⟩
  · intro i j oi oj b2 σ1 κ1 σ2 κ2 hij hi hj li lj pi pj
    rw [Map.add_ne _ _ (hne i oi hi)] at pi
    rw [Map.add_ne _ _ (hne j oj hj)] at pj
    exact H.sep i j oi oj b2 σ1 κ1 σ2 κ2 hij hi hj li lj pi pj
theorem HRel.setMap (H : HRel B0 w0 φ h w) {i : Nat} {es : List (Value × Value)} (ho : h.objs.get? i = some (.map es)) {b σ κ : Nat} (hp : φ i = some (b, σ, κ)) :
    ∃ ents clock, w.heap[b]? = some (.map ents clock) ∧ L2 (fun (p : Value × Value) (e : MapEntry) => VRel φ p.1 e.key ∧ VRel φ p.2 e.val) es ents.toList ∧ MapKept.Stamped ents clock ∧
      ∀ es' (ents' : Array MapEntry) clock' (it : T Nat), L2 (fun (p : Value × Value) (e : MapEntry) => VRel φ p.1 e.key ∧ VRel φ p.2 e.val) es' ents'.toList → MapKept.Stamped ents' clock' →
        ((it = h.its ∧ ((clock = ents.size ∧ ∀ (j : Nat) (x : MapEntry), ents[j]? = some x → x.born = j) → clock' = ents'.size ∧ ∀ (j : Nat) (x : MapEntry), ents'[j]? = some x → x.born = j)) ∨ it = .nil) →
        HRel B0 w0 φ { h with objs := h.objs.set i (.map es'), its := it } { w with heap := w.heap.setIfInBounds b (.map ents' clock') } := by
  obtain ⟨b', σ', κ', hp', hR⟩ := H.obj i _ ho
  rw [hp] at hp'; cases hp'
  obtain ⟨rfl, rfl, hB, ents, clock, hw, hl, hst⟩ := hR
  refine ⟨ents, clock, hw, hl, hst, fun es' ents' clock' it hl' hst' hit => ?_⟩
  have hlt := H.lt ho hp
  have hne : ∀ k, k ≠ b → ({ w with heap := w.heap.setIfInBounds b (.map ents' clock') } : World).heap[k]? = w.heap[k]? := fun k hk => by
    simp only []; rw [Array.getElem?_setIfInBounds_ne (Ne.symm hk)]
  have hsame : ({ w with heap := w.heap.setIfInBounds b (.map ents' clock') } : World).heap[b]? = some (.map ents' clock') := by
    simp only []; rw [Array.getElem?_setIfInBounds_self, if_pos hlt]
  refine ⟨H.base, BelowZ.growTo H.below rfl rfl rfl (by simp) (fun k hk => hne k (fun e => hB (e ▸ hk))), H.dom, fun j o x hj hx => ?_, ?_, ?_, ?_, ?_⟩
  rotate_left 4
  · rcases hit with ⟨rfl, hx⟩ | rfl
    · exact H.ty.same (Cast.setMap w hw hx) rfl (Nat.le_refl _)
    · refine H.ty.drop (fun b2 c t fz hc => ⟨c, fz, ?_⟩) rfl (Nat.le_refl _) rfl
      rw [hne b2 (fun e => by rw [e, hw] at hc; cases hc)]
      exact hc
  · simp only [T.get?_set] at hj
    simp only [Array.size_setIfInBounds]
    split at hj
    · rename_i e; subst e; exact H.lto _ _ _ ho hx
    · exact H.lto _ _ _ hj hx
  · intro j o hj
    simp only [T.get?_set] at hj
    by_cases hji : j = i
    · subst hji
      simp only [if_true, Option.some.injEq] at hj
      subst hj
      exact ⟨b, 0, 0, hp, rfl, rfl, hB, ents', clock', hsame, hl', hst'⟩
    · simp only [if_neg hji] at hj
      obtain ⟨b2, σ2, κ2, hp2, hR2⟩ := H.obj j o hj
      refine ⟨b2, σ2, κ2, hp2, ?_⟩
      by_cases hlive : live h.fams o
      · by_cases hbb : b2 = b
        · subst hbb
          have := (H.sep j i o _ _ _ _ _ _ hji hj ho hlive trivial hp2 hp).1
          cases o <;> exact this.elim
        · exact hR2.same (hne _ hbb)
      · cases o with
        | var cs2 n2 ro2 =>
          have hro : ro2 = true := by cases ro2 <;> simp_all [live]
          obtain ⟨e1, e2, e3, e4, e5⟩ := hR2
          rcases e5 hro with hlt2 | hn0
          · exact ORel.same (o := .var cs2 n2 ro2) ⟨e1, e2, e3, e4, e5⟩ (hne _ (fun e => hB (e ▸ B0.sub _ hlt2)))
          · exact ⟨e1, e2, fun k x hk => by omega, fun e => (by rw [hro] at e; cases e), e5⟩
        | row f g lo hi sz cs2 => intro fm hf hg; exact absurd ⟨fm, hf, hg⟩ hlive
        | map es => exact absurd trivial hlive
  · intro j f g lo hi sz cs2 hj
    simp only [T.get?_set] at hj
    split at hj
    · cases hj
    · exact H.fam j f g lo hi sz cs2 hj
  · intro j k oj ok b2 σ2 κ2 σ3 κ3 hjk hj hk lj lk pj pk
    simp only [T.get?_set] at hj hk
    by_cases hji : j = i
    · subst hji
      simp only [if_true, Option.some.injEq] at hj
      rw [if_neg (Ne.symm hjk)] at hk
      have := H.sep j k _ ok b2 σ2 κ2 σ3 κ3 hjk ho hk trivial lk pj pk
      subst hj
      exact ⟨by have := this.1; cases ok <;> exact this.elim, this.2⟩
    · rw [if_neg hji] at hj
      by_cases hki : k = i
      · subst hki
        simp only [if_true, Option.some.injEq] at hk
        have := H.sep j k oj _ b2 σ2 κ2 σ3 κ3 hjk hj ho lj trivial pj pk
        subst hk
        exact ⟨by have := this.1; cases oj <;> exact this.elim, this.2⟩
      · rw [if_neg hki] at hk
        exact H.sep j k oj ok b2 σ2 κ2 σ3 κ3 hjk hj hk lj lk pj pk
theorem nextGen_spec (ext e g : Nat) : (ext ≤ e ∧ nextGen ext e g = g) ∨ (e < ext ∧ nextGen ext e g = g + 1) := by
  unfold nextGen
  cases hb : Nat.ble ext e with
  | true => exact .inl ⟨ble_true hb, rfl⟩
  | false =>
    refine .inr ⟨?_, rfl⟩
    rcases Nat.lt_or_ge e ext with h | h
    · exact h
    · rw [Nat.ble_eq_true_of_le h] at hb; cases hb
theorem HRel.grow (H : HRel B0 w0 φ h w) {i f g lo hi sz : Nat} {cs : T Value} {fm : Fam} {b σ κ : Nat} (ho : h.objs.get? i = some (.row f g lo hi sz cs)) (hp : φ i = some (b, σ, κ))
    (hfm : h.fams.get? f = some fm) (hg : fm.gen = g) {off e : Nat} (hlo : lo ≤ off) (hoe : off ≤ e) (hehi : e ≤ hi) (hfrz : fm.frz ≤ e) {new new' : List Value} (hl : LRel φ new new') (h1 : allOne new = true)
    {g' : Nat} (hg' : g' = nextGen fm.ext e g) :
    (∀ κ', hi + κ * sz = e + new.length + κ' * sz → ∃ w' ψ, (storeCells ⟨b, e - σ, none⟩ new').run P w = .ok () w' ∧ φ.le ψ ∧ ψ h.next = some (b, σ, κ') ∧
      HRel B0 w0 ψ { h with next := h.next + 1, objs := h.objs.set h.next (.row f g' off (e + new.length) sz (cs.setL e new)), fams := h.fams.set f { fm with gen := g', ext := e + new.length } } w') ∧
    (∀ κ' (old' rest : List Value) (ty : TypeId), (∀ j v', old'[j]? = some v' → w.cell? ⟨b, off - σ + j, none⟩ = some v') → old'.length = e - off → rest.length = κ' * sz → ∃ ψ, φ.le ψ ∧ ψ h.next = some (w.heap.size, off, κ') ∧
      HRel B0 w0 ψ { h with next := h.next + 1, objs := h.objs.set h.next (.row f g' off (e + new.length) sz (cs.setL e new)), fams := h.fams.set f { fm with gen := g', ext := e + new.length } } (w.alloc (.cells ⟨old' ++ new' ++ rest⟩ ty))) := by
  obtain ⟨b', σ', κ0, hp', hR⟩ := H.obj i _ ho
  rw [hp] at hp'; cases hp'
  obtain ⟨hB, hs, hext, h4, h5, h6⟩ := hR fm hfm hg
  obtain ⟨hfn, fm1, hfm1, hgle⟩ := H.fam i _ _ _ _ _ _ ho
  have hil : live h.fams (.row f g lo hi sz cs) := ⟨fm, hfm, hg⟩
  have hng := nextGen_spec fm.ext e g
  rw [← hg'] at hng
  have hgg : fm.gen ≤ g' := by omega
  have was : ∀ j o, h.objs.get? j = some o → live (h.fams.set f { fm with gen := g', ext := e + new.length }) o →
      live h.fams o ∧ ∀ g2 lo2 hi2 sz2 cs2, o = .row f g2 lo2 hi2 sz2 cs2 → hi2 ≤ e ∧ hi2 ≤ fm.ext ∧ g' = fm.gen := by
    intro j o hj hlv
    cases o with
    | var a n ro => exact ⟨hlv, fun _ _ _ _ _ e => by cases e⟩
    | map es => exact ⟨trivial, fun _ _ _ _ _ e => by cases e⟩
    | row f2 g2 lo2 hi2 sz2 cs2 =>
      obtain ⟨fm2, hf2, hg2⟩ := hlv
      simp only [T.get?_set] at hf2
      by_cases hff : f2 = f
      · subst hff
        simp only [if_true, Option.some.injEq] at hf2
        subst hf2
        simp only at hg2
        obtain ⟨_, fm3, hf3, hg3⟩ := H.fam j _ _ _ _ _ _ hj
        rw [hfm] at hf3; cases hf3
        have hgf : g' = fm.gen := by omega
        have hext2 : fm.ext ≤ e := by
          omega
        obtain ⟨b3, σ3, κ3, hp3, hR3⟩ := H.obj j _ hj
        have := (hR3 fm hfm (by omega)).2.2.1
        exact ⟨⟨fm, hfm, by omega⟩, fun g4 lo4 hi4 sz4 cs4 e4 => by cases e4; exact ⟨by omega, this, hgf⟩⟩
      · rw [if_neg hff] at hf2
        exact ⟨⟨fm2, hf2, hg2⟩, fun _ _ _ _ _ e => by cases e; exact absurd rfl hff⟩
  have hnk : φ h.next = none := H.free (Nat.le_refl _)
  have famOf : ∀ j f2 g2 lo2 hi2 sz2 cs2, (h.objs.set h.next (.row f g' off (e + new.length) sz (cs.setL e new))).get? j = some (.row f2 g2 lo2 hi2 sz2 cs2) →
      f2 < h.next + 1 ∧ ∃ fm2, (h.fams.set f { fm with gen := g', ext := e + new.length }).get? f2 = some fm2 ∧ g2 ≤ fm2.gen := by
    intro j f2 g2 lo2 hi2 sz2 cs2 hj
    simp only [T.get?_set] at hj ⊢
    split at hj
    · simp only [Option.some.injEq, AObj.row.injEq] at hj
      obtain ⟨rfl, rfl, _⟩ := hj
      exact ⟨by omega, _, by rw [if_pos rfl], Nat.le_refl _⟩
    · obtain ⟨k1, fm2, k2, k3⟩ := H.fam j _ _ _ _ _ _ hj
      refine ⟨by omega, ?_⟩
      by_cases hff : f2 = f
      · subst hff
        rw [hfm] at k2; cases k2
        exact ⟨_, by rw [if_pos rfl], by simp only []; omega⟩
      · exact ⟨fm2, by rw [if_neg hff]; exact k2, k3⟩
  constructor
  · intro κ' hκ
    have hlen : new'.length = new.length := hl.1.symm
    have hcell : ∀ j, j < new'.length → (w.cell? ⟨b, e - σ + 0 + j, none⟩).isSome = true := fun j hj => by
      obtain ⟨u, hu⟩ := h5 (e + j) (by omega) (by omega)
      rw [show e - σ + 0 + j = e + j - σ from by omega, hu]; rfl
    have hfr : ∀ j, j < new'.length → w.frozen? ⟨b, e - σ + 0 + j, none⟩ = false := fun j hj => by
      rw [show e - σ + 0 + j = e + j - σ from by omega]
      exact h6 (e + j) (by omega) (by omega) (by omega)
    have hrun := run_storeCells_cells (P := P) b (e - σ) new' 0 w hcell hfr (hl.one h1)
    have hle : φ.le (φ.add h.next (b, σ, κ')) := Map.le_add hnk
    refine ⟨_, φ.add h.next (b, σ, κ'), hrun, hle, Map.add_same _ _ _, ?_⟩
    have hsz : ∀ (vs : List Value) (o : Nat) (w : World), (w.setCells b o vs).heap.size = w.heap.size := by
      intro vs; induction vs with
      | nil => intro o w; rfl
      | cons v r ih => intro o w; simp [World.setCells, ih]
    have hother : ∀ (vs : List Value) (o : Nat) (w : World) (k : Nat), k ≠ b → (w.setCells b o vs).heap[k]? = w.heap[k]? := by
      intro vs; induction vs with
      | nil => intro o w k _; rfl
      | cons v r ih => intro o w k hk; rw [World.setCells, ih _ _ _ hk, heap_setCell_ne _ _ _ _ hk]
    have hbelow : ∀ (vs : List Value) (o : Nat) (w : World), BelowZ B0 w0 w → BelowZ B0 w0 (w.setCells b o vs) := by
      intro vs; induction vs with
      | nil => intro o w hw; exact hw
      | cons v r ih => intro o w hw; exact ih _ _ (hw.setCell (by exact hB) _)
    have hcast : ∀ (vs : List Value) (o : Nat) (w : World), Cast w (w.setCells b o vs) := by
      intro vs; induction vs with
      | nil => intro o w; exact Cast.refl _
      | cons v r ih => intro o w; exact (Cast.setCell _ _ _).trans (ih _ _)
    refine ⟨H.base, hbelow _ _ _ H.below, ?_, ?_, ?_, famOf, ?_, H.ty.add (hcast _ _ _) rfl (Nat.le_succ _)⟩
    · intro j y hy
      unfold Map.add at hy
      split at hy
      · rename_i e1; subst e1; exact Nat.lt_succ_self _
      · exact Nat.lt_succ_of_lt (H.dom j y hy)
    · intro j o y hj hy
      rw [hsz]
      simp only [T.get?_set] at hj
      by_cases e1 : j = h.next
      · subst e1
        rw [Map.add_same] at hy; cases hy
        exact H.lt ho hp
      · rw [if_neg e1] at hj
        rw [Map.add_ne _ _ e1] at hy
        exact H.lto j o y hj hy
    · intro j oj hj
      simp only [T.get?_set] at hj
      by_cases ej : j = h.next
      · subst ej
        simp only [if_true, Option.some.injEq] at hj
        subst hj
        refine ⟨b, σ, κ', Map.add_same _ _ _, ?_⟩
        intro fm2 hf2 _
        rw [T.get?_set_same] at hf2
        simp only [Option.some.injEq] at hf2
        subst hf2
        refine ⟨hB, by omega, Nat.le_refl _, ?_, ?_, ?_⟩
        · intro c v c1 c2 hv
          rw [T.get?_setL] at hv
          by_cases hce : e ≤ c
          · rw [if_pos ⟨hce, c2⟩] at hv
            obtain ⟨v', hv', hr⟩ := hl.get hv
            have hj' : c - e < new'.length := (List.getElem?_eq_some_iff.1 hv').1
            have := World.cell?_setCells_in b new' (e - σ + 0) w hcell (c - e) hj'
            refine ⟨v', ?_, hr.mono hle⟩
            rw [show c - σ = e - σ + 0 + (c - e) from by omega, this]
            rw [List.getElem?_eq_getElem hj'] at hv'
            exact hv'
          · rw [if_neg (by omega)] at hv
            obtain ⟨v', hv', hr⟩ := h4 c v (by omega) (by omega) hv
            refine ⟨v', ?_, hr.mono hle⟩
            rw [World.cell?_setCells_out b new' _ w _ (fun _ _ => .inl (by simp only []; omega))]
            exact hv'
        · intro c c1 c2
          by_cases hce : e ≤ c ∧ c < e + new'.length
          · have := World.cell?_setCells_in b new' (e - σ + 0) w hcell (c - e) (by omega)
            exact ⟨_, by rw [show c - σ = e - σ + 0 + (c - e) from by omega]; exact this⟩
          · obtain ⟨u, hu⟩ := h5 c (by omega) (by omega)
            refine ⟨u, ?_⟩
            rw [World.cell?_setCells_out b new' _ w _ (fun _ _ => by simp only []; omega)]
            exact hu
        · intro c c0 c1 c2
          rw [World.frozen?_setCells]
          exact h6 c c0 (by omega) (by omega)
      · rw [if_neg ej] at hj
        obtain ⟨b2, σ2, κ2, hp2, hR2⟩ := H.obj j oj hj
        refine ⟨b2, σ2, κ2, hle _ _ hp2, ?_⟩
        by_cases hbb : b2 = b
        · -- the same block: of the family, ahead of e
          subst hbb
          cases oj with
          | var cs2 n2 ro2 =>
            cases ro2 with
            | false =>
              have hji : j ≠ i := fun e => by subst e; rw [ho] at hj; cases hj
              exact (H.sep j i _ _ _ _ _ _ _ hji hj ho rfl hil hp2 hp).1.elim
            | true =>
              obtain ⟨e1, e2, e3, e4, e5⟩ := hR2
              rcases e5 rfl with hlt2 | hn0
              · exact absurd (B0.sub _ hlt2) hB
              · exact ⟨e1, e2, fun k x hk => by omega, fun e => (by cases e), e5⟩
          | map es =>
            have hji : j ≠ i := fun e => by subst e; rw [ho] at hj; cases hj
            exact (H.sep j i _ _ _ _ _ _ _ hji hj ho trivial hil hp2 hp).1.elim
          | row f2 g2 lo2 hi2 sz2 cs2 =>
            intro fm2 hf2 hg2
            obtain ⟨ol, hfam⟩ := was j _ hj ⟨fm2, hf2, hg2⟩
            have hff : f2 = f ∧ σ2 = σ ∧ κ2 * sz2 = κ2 * sz2 := by
              by_cases hji : j = i
              · subst hji; rw [ho] at hj; cases hj; rw [hp] at hp2; cases hp2; exact ⟨rfl, rfl, rfl⟩
              · have := H.sep j i _ _ _ _ _ _ _ hji hj ho ol hil hp2 hp
                exact ⟨this.1, this.2, rfl⟩
            obtain ⟨rfl, rfl, _⟩ := hff
            obtain ⟨hh1, hh2, hh3⟩ := hfam _ _ _ _ _ rfl
            simp only [T.get?_set, if_true, Option.some.injEq] at hf2
            subst hf2
            obtain ⟨q1, q2, q3, q4, q5, q6⟩ := hR2 fm hfm (by simp only [] at hg2; omega)
            refine ⟨q1, q2, by simp only []; omega, ?_, ?_, ?_⟩
            · intro c v c1 c2 hv
              obtain ⟨v', hv', hr⟩ := q4 c v c1 c2 hv
              refine ⟨v', ?_, hr.mono hle⟩
              rw [World.cell?_setCells_out b2 new' _ w _ (fun _ _ => .inl (by simp only []; omega))]
              exact hv'
            · intro c c1 c2
              obtain ⟨u, hu⟩ := q5 c c1 c2
              by_cases hin : e - σ2 ≤ c - σ2 ∧ c - σ2 < e - σ2 + new'.length
              · have := World.cell?_setCells_in b2 new' (e - σ2 + 0) w hcell (c - σ2 - (e - σ2)) (by omega)
                exact ⟨_, by rw [show c - σ2 = e - σ2 + 0 + (c - σ2 - (e - σ2)) from by omega]; exact this⟩
              · exact ⟨u, by rw [World.cell?_setCells_out b2 new' _ w _ (fun _ _ => by simp only []; omega)]; exact hu⟩
            · intro c c0 c1 c2
              rw [World.frozen?_setCells]
              exact q6 c c0 c1 c2
        · have hR3 := (hR2.mono hle).same (w' := w.setCells b (e - σ + 0) new') (hother _ _ _ _ hbb)
          cases oj with
          | var a n ro => exact hR3
          | map es => exact hR3
          | row f2 g2 lo2 hi2 sz2 cs2 =>
            intro fm2 hf2 hg2
            by_cases hff : f2 = f
            · subst hff
              obtain ⟨ol, hfam⟩ := was j _ hj ⟨fm2, hf2, hg2⟩
              obtain ⟨hh1, hh2, hh3⟩ := hfam _ _ _ _ _ rfl
              simp only [T.get?_set, if_true, Option.some.injEq] at hf2
              subst hf2
              obtain ⟨q1, q2, q3, q4, q5, q6⟩ := hR3 fm hfm (by simp only [] at hg2; omega)
              exact ⟨q1, q2, by simp only []; omega, q4, q5, q6⟩
            · simp only [T.get?_set, if_neg hff] at hf2
              exact hR3 fm2 hf2 hg2
    · intro j k oj ok b2 σ2 κ2 σ3 κ3 hjk hj hk lj lk pj pk
      simp only [T.get?_set] at hj hk
      have key : ∀ x ox bx σx κx, x ≠ h.next → h.objs.get? x = some ox → live h.fams ox → φ x = some (bx, σx, κx) → bx = b → kin ox (.row f g lo hi sz cs) ∧ σx = σ := by
        intro x ox bx σx κx _ hx lx px hb
        rw [hb] at px
        by_cases hxi : x = i
        · rw [hxi, ho] at hx; cases hx; rw [hxi, hp] at px; cases px; exact ⟨rfl, rfl⟩
        · exact H.sep x i _ _ _ _ _ _ _ hxi hx ho lx hil px hp
      by_cases ej : j = h.next
      · subst ej
        rw [if_pos rfl] at hj
        simp only [Option.some.injEq] at hj; subst hj
        rw [Map.add_same] at pj
        simp only [Option.some.injEq, Prod.mk.injEq] at pj
        obtain ⟨rfl, rfl, rfl⟩ := pj
        rw [if_neg (Ne.symm hjk)] at hk
        rw [Map.add_ne _ _ (Ne.symm hjk)] at pk
        have := key k ok _ _ _ (Ne.symm hjk) hk (was k ok hk lk).1 pk rfl
        exact ⟨by cases ok <;> first | exact this.1.elim | exact Eq.symm this.1, this.2.symm⟩
      · rw [if_neg ej] at hj
        rw [Map.add_ne _ _ ej] at pj
        by_cases ek : k = h.next
        · subst ek
          rw [if_pos rfl] at hk
          simp only [Option.some.injEq] at hk; subst hk
          rw [Map.add_same] at pk
          simp only [Option.some.injEq, Prod.mk.injEq] at pk
          obtain ⟨rfl, rfl, rfl⟩ := pk
          have := key j oj _ _ _ ej hj (was j oj hj lj).1 pj rfl
          exact ⟨by cases oj <;> first | exact this.1.elim | exact this.1, this.2⟩
        · rw [if_neg ek] at hk
          rw [Map.add_ne _ _ ek] at pk
          exact H.sep j k oj ok b2 σ2 κ2 σ3 κ3 hjk hj hk (was j oj hj lj).1 (was k ok hk lk).1 pj pk
  · intro κ' old' rest ty hold hol hrest
    have hlen : new'.length = new.length := hl.1.symm
    have hle : φ.le (φ.add h.next (w.heap.size, off, κ')) := Map.le_add hnk
    refine ⟨φ.add h.next (w.heap.size, off, κ'), hle, Map.add_same _ _ _, ?_⟩
    have hnb : ∀ i o b σ κ, h.objs.get? i = some o → φ i = some (b, σ, κ) → b ≠ w.heap.size := fun i o b σ κ ho hp => Nat.ne_of_lt (H.lt ho hp)
    refine ⟨H.base, H.below.alloc H.inn _, ?_, ?_, ?_, famOf, ?_, H.ty.add (Cast.alloc _ _) rfl (Nat.le_succ _)⟩
    · intro j y hy
      unfold Map.add at hy
      split at hy
      · rename_i e1; subst e1; exact Nat.lt_succ_self _
      · exact Nat.lt_succ_of_lt (H.dom j y hy)
    · intro j o y hj hy
      simp only [T.get?_set] at hj
      by_cases e1 : j = h.next
      · subst e1
        rw [Map.add_same] at hy; cases hy; simp
      · rw [if_neg e1] at hj
        rw [Map.add_ne _ _ e1] at hy
        have := H.lto j o y hj hy
        simp; omega
    · intro j oj hj
      simp only [T.get?_set] at hj
      by_cases ej : j = h.next
      · subst ej
        simp only [if_true, Option.some.injEq] at hj
        subst hj
        refine ⟨w.heap.size, off, κ', Map.add_same _ _ _, ?_⟩
        intro fm2 hf2 _
        rw [T.get?_set_same] at hf2
        simp only [Option.some.injEq] at hf2
        subst hf2
        refine ⟨H.newZ, Nat.le_refl _, Nat.le_refl _, ?_, ?_, fun c _ _ _ => World.frozen?_alloc_new _ _ _ _⟩
        · intro c v c1 c2 hv
          rw [T.get?_setL] at hv
          rw [cell_new]
          simp only [List.getElem?_toArray]
          by_cases hce : e ≤ c
          · rw [if_pos ⟨hce, c2⟩] at hv
            obtain ⟨v', hv', hr⟩ := hl.get hv
            refine ⟨v', ?_, hr.mono hle⟩
            rw [List.append_assoc, List.getElem?_append_right (by omega), List.getElem?_append_left (by omega), hol, show c - off - (e - off) = c - e from by omega]
            exact hv'
          · rw [if_neg (by omega)] at hv
            obtain ⟨v', hv', hr⟩ := h4 c v (by omega) (by omega) hv
            refine ⟨v', ?_, hr.mono hle⟩
            have hlt : c - off < old'.length := by omega
            rw [List.append_assoc, List.getElem?_append_left hlt]
            have := hold (c - off) _ (List.getElem?_eq_getElem hlt)
            rw [show off - σ + (c - off) = c - σ from by omega, hv'] at this
            rw [List.getElem?_eq_getElem hlt]
            exact this.symm
        · intro c c1 c2
          rw [cell_new]
          simp only [List.getElem?_toArray]
          refine ⟨(old' ++ new' ++ rest)[c - off]'(by simp; omega), ?_⟩
          simp
      · rw [if_neg ej] at hj
        obtain ⟨b2, σ2, κ2, hp2, hR2⟩ := H.obj j oj hj
        refine ⟨b2, σ2, κ2, hle _ _ hp2, ?_⟩
        have hR3 := (hR2.mono hle).same (w' := w.alloc (.cells ⟨old' ++ new' ++ rest⟩ ty)) (by simp only [World.alloc, Array.getElem?_push]; rw [if_neg (Nat.ne_of_lt (H.lt hj hp2))])
        cases oj with
        | var a n ro => exact hR3
        | map es => exact hR3
        | row f2 g2 lo2 hi2 sz2 cs2 =>
          intro fm2 hf2 hg2
          by_cases hff : f2 = f
          · subst hff
            obtain ⟨ol, hfam⟩ := was j _ hj ⟨fm2, hf2, hg2⟩
            obtain ⟨hh1, hh2, hh3⟩ := hfam _ _ _ _ _ rfl
            simp only [T.get?_set, if_true, Option.some.injEq] at hf2
            subst hf2
            obtain ⟨q1, q2, q3, q4, q5, q6⟩ := hR3 fm hfm (by simp only [] at hg2; omega)
            exact ⟨q1, q2, by simp only []; omega, q4, q5, q6⟩
          · simp only [T.get?_set, if_neg hff] at hf2
            exact hR3 fm2 hf2 hg2
    · intro j k oj ok b2 σ2 κ2 σ3 κ3 hjk hj hk lj lk pj pk
      simp only [T.get?_set] at hj hk
      by_cases ej : j = h.next
      · subst ej
        rw [Map.add_same] at pj
        simp only [Option.some.injEq, Prod.mk.injEq] at pj
        rw [Map.add_ne _ _ (Ne.symm hjk)] at pk
        rw [if_neg (Ne.symm hjk)] at hk
        exact absurd pj.1.symm (hnb _ _ _ _ _ hk pk)
      · rw [if_neg ej] at hj
        rw [Map.add_ne _ _ ej] at pj
        by_cases ek : k = h.next
        · subst ek
          rw [Map.add_same] at pk
          simp only [Option.some.injEq, Prod.mk.injEq] at pk
          exact absurd pk.1.symm (hnb _ _ _ _ _ hj pj)
        · rw [if_neg ek] at hk
          rw [Map.add_ne _ _ ek] at pk
          exact H.sep j k oj ok b2 σ2 κ2 σ3 κ3 hjk hj hk (was j oj hj lj).1 (was k ok hk lk).1 pj pk
theorem HRel.iter (H : HRel B0 w0 φ h w) : φ.le (φ.add h.next (w.heap.size, 0, 0)) ∧ HRel B0 w0 (φ.add h.next (w.heap.size, 0, 0)) h.newIter (w.alloc (.mapIter none 0 #[] 0)) := by
  have hle : φ.le (φ.add h.next (w.heap.size, 0, 0)) := Map.le_add (H.free (Nat.le_refl _))
  have hno : ∀ i o, h.objs.get? i = some o → i ≠ h.next := fun i o ho e => by rw [H.objFree (Nat.le_of_eq e.symm)] at ho; cases ho
  have hnew : (w.alloc (.mapIter none 0 #[] 0)).heap[w.heap.size]? = some (Obj.mapIter none 0 #[] 0) := by
    show (w.heap.push _)[w.heap.size]? = _
    simp
  refine ⟨hle, ⟨H.base, H.below.alloc H.inn _, fun i y hy => ?_, fun i o y ho hy => ?_, fun i o ho => ?_, fun i f g lo hi sz cs ho => ?_, fun i j oi oj b σ κ σ' κ' hij hi hj li lj hp hq => ?_, ⟨fun i t hi => ?_, fun i hi => ?_, fun i hi => ?_⟩⟩⟩
  · unfold Map.add at hy
    split at hy
    · rename_i e; subst e; exact Nat.lt_succ_self _
    · exact Nat.lt_succ_of_lt (H.dom i y hy)
  · rw [Map.add_ne _ _ (hno i o ho)] at hy
    have := H.lto i o y ho hy
    simp; omega
  · obtain ⟨b, σ, κ, hp, hR⟩ := H.obj i o ho
    refine ⟨b, σ, κ, by rw [Map.add_ne _ _ (hno i o ho)]; exact hp, (hR.mono hle).same ?_⟩
    have hlt := H.lt ho hp
    simp only [World.alloc, Array.getElem?_push]
    rw [if_neg (Nat.ne_of_lt hlt)]
  · obtain ⟨h1, h2⟩ := H.fam i f g lo hi sz cs ho
    exact ⟨Nat.lt_succ_of_lt h1, h2⟩
  · rw [Map.add_ne _ _ (hno i oi hi)] at hp
    rw [Map.add_ne _ _ (hno j oj hj)] at hq
    exact H.sep i j oi oj b σ κ σ' κ' hij hi hj li lj hp hq
  · exact (H.ty.add (Cast.alloc w _) (h' := { h with next := h.next + 1 }) rfl (Nat.le_succ _)).1 i t hi
  · simp only [AW.newIter, T.get?_set] at hi
    split at hi
    · rename_i e
      subst e
      refine ⟨Nat.lt_succ_self _, fun b σ κ hp => ?_⟩
      rw [Map.add_same] at hp
      cases hp
      exact hnew
    · exact (H.ty.add (Cast.alloc w _) (h' := { h with next := h.next + 1 }) rfl (Nat.le_succ _)).2.1 i hi
  · simp only [AW.newIter, T.get?_set] at hi
    split at hi
    · cases hi
    · exact (H.ty.add (Cast.alloc w _) (h' := { h with next := h.next + 1 }) rfl (Nat.le_succ _)).2.2 i hi
theorem HRel.tag (H : HRel B0 w0 φ h w) {i : Nat} (hi : i < h.next) {t : TypeId} (ht : ∀ b σ κ, φ i = some (b, σ, κ) → ∃ c fz, w.heap[b]? = some (.cells c t fz)) : HRel B0 w0 φ (h.tag i t) w :=
  ⟨H.base, H.below, H.dom, H.lto, H.obj, H.fam, H.sep, ⟨fun j u hj => by
    simp only [AW.tag, T.get?_set] at hj
    split at hj
    · rename_i e
      subst e
      cases hj
      exact ⟨hi, ht⟩
    · exact H.ty.1 j u hj, H.ty.2⟩⟩
theorem HRel.tagAs (H : HRel B0 w0 φ h w) {i j : Nat} (hi : i < h.next) {t : TypeId} {b σ κ : Nat} (hp : φ i = some (b, σ, κ)) (ht : h.tys.get? j = some t → ∃ c fz, w.heap[b]? = some (.cells c t fz)) : HRel B0 w0 φ (h.tagAs i (h.tys.get? j) t) w := by
  unfold AW.tagAs
  split
  · rename_i u hu
    split
    · rename_i e
      have e := beq_true e
      subst e
      exact H.tag hi fun b' σ' κ' h' => by rw [hp] at h'; cases h'; exact ht hu
    · exact H
  · exact H
theorem heap_freeze_ne (w : World) (a : Addr) (n : Nat) {k : Nat} (hk : k ≠ a.block) : (w.freeze a n).heap[k]? = w.heap[k]? := by
  unfold World.freeze
  split
  · rfl
  · simp only [Array.getElem?_modify]
    rw [if_neg (fun e => hk e.symm)]
theorem size_freeze (w : World) (a : Addr) (n : Nat) : (w.freeze a n).heap.size = w.heap.size := by
  unfold World.freeze
  split
  · rfl
  · simp
theorem HRel.forget (H : HRel B0 w0 φ h w) {i b σ κ : Nat} (hp : φ i = some (b, σ, κ)) (hf : h.forget i = some h') {a : Addr} (ha : a.block = b) (n : Nat) : HRel B0 w0 φ h' (w.freeze a n) := by
  have hne : ∀ k, k ≠ b → (w.freeze a n).heap[k]? = w.heap[k]? := fun k hk => heap_freeze_ne w a n (by rw [ha]; exact hk)
  have hsz := size_freeze w a n
  have below : ¬ B0.Z b → BelowZ B0 w0 (w.freeze a n) := fun hB => by
    refine BelowZ.growTo H.below ?_ ?_ ?_ (by rw [hsz]; exact Nat.le_refl _) (fun k hk => hne k (fun e => hB (e ▸ hk)))
    all_goals (unfold World.freeze; split <;> rfl)
  unfold AW.forget at hf
  split at hf
  · rename_i cs m ho
    simp only [Option.some.injEq] at hf
    subst hf
    obtain ⟨b', σ', κ', hp', hR⟩ := H.obj i _ ho
    rw [hp] at hp'; cases hp'
    obtain ⟨rfl, rfl, h3, h4, h5⟩ := hR
    obtain ⟨hB, hcell⟩ := h4 rfl
    refine ⟨H.base, below hB, H.dom, fun j o x hj hx => ?_, ?_, ?_, ?_, H.ty.same (Cast.freeze _ _ _) rfl (Nat.le_refl _)⟩
    · simp only [T.get?_set] at hj
      rw [hsz]
      split at hj
      · rename_i e; subst e; exact H.lto _ _ _ ho hx
      · exact H.lto _ _ _ hj hx
    · intro j o hj
      simp only [T.get?_set] at hj
      by_cases hji : j = i
      · subst hji
        simp only [if_true, Option.some.injEq] at hj
        subst hj
        exact ⟨b, 0, 0, hp, rfl, rfl, fun k x hk => absurd hk (Nat.not_lt_zero _), fun _ => ⟨hB, fun k hk => absurd hk (Nat.not_lt_zero _)⟩, fun e => by cases e⟩
      · simp only [if_neg hji] at hj
        obtain ⟨b2, σ2, κ2, hp2, hR2⟩ := H.obj j o hj
        refine ⟨b2, σ2, κ2, hp2, ?_⟩
        by_cases hlive : live h.fams o
        · by_cases hbb : b2 = b
          · subst hbb
            have := (H.sep j i o _ _ _ _ _ _ hji hj ho hlive rfl hp2 hp).1
            cases o <;> exact this.elim
          · exact hR2.same (hne _ hbb)
        · cases o with
          | var cs2 n2 ro2 =>
            have hro : ro2 = true := by cases ro2 <;> simp_all [live]
            obtain ⟨e1, e2, e3, e4, e5⟩ := hR2
            rcases e5 hro with hlt2 | hn0
            · exact ORel.same (o := .var cs2 n2 ro2) ⟨e1, e2, e3, e4, e5⟩ (hne _ (fun e => hB (e ▸ B0.sub _ hlt2)))
            · exact ⟨e1, e2, fun k x hk => by omega, fun e => (by rw [hro] at e; cases e), e5⟩
          | row f g lo hi sz cs2 => intro fm hf hg; exact absurd ⟨fm, hf, hg⟩ hlive
          | map es => exact absurd trivial hlive
    · intro j f g lo hi sz cs2 hj
      simp only [T.get?_set] at hj
      split at hj
      · cases hj
      · exact H.fam j f g lo hi sz cs2 hj
    · intro j k oj ok b2 σ2 κ2 σ3 κ3 hjk hj hk lj lk pj pk
      simp only [T.get?_set] at hj hk
      by_cases hji : j = i
      · subst hji
        simp only [if_true, Option.some.injEq] at hj
        rw [if_neg (Ne.symm hjk)] at hk
        have := H.sep j k _ ok b2 σ2 κ2 σ3 κ3 hjk ho hk rfl lk pj pk
        subst hj
        exact ⟨by have := this.1; cases ok <;> exact this.elim, this.2⟩
      · rw [if_neg hji] at hj
        by_cases hki : k = i
        · subst hki
          simp only [if_true, Option.some.injEq] at hk
          have := H.sep j k oj _ b2 σ2 κ2 σ3 κ3 hjk hj ho lj rfl pj pk
          subst hk
          exact ⟨by have := this.1; cases oj <;> exact this.elim, this.2⟩
        · rw [if_neg hki] at hk
          exact H.sep j k oj ok b2 σ2 κ2 σ3 κ3 hjk hj hk lj lk pj pk
  · rename_i f g lo hi sz cs ho
    split at hf
    · rename_i fm hfm
      split at hf
      · rename_i hg
        have hg := beq_true hg
        simp only [Option.some.injEq] at hf
        subst hf
        obtain ⟨b', σ', κ', hp', hR⟩ := H.obj i _ ho
        rw [hp] at hp'; cases hp'
        obtain ⟨hB, hs, hext, h4, h5, h6⟩ := hR fm hfm hg
        have hil : live h.fams (.row f g lo hi sz cs) := ⟨fm, hfm, hg⟩
        have was : ∀ j o, h.objs.get? j = some o → live (h.fams.set f { fm with gen := g + 1 }) o → live h.fams o ∧ ¬ kin o (.row f g lo hi sz cs) := by
          intro j o hj hlv
          cases o with
          | var a n ro => exact ⟨hlv, fun k => k⟩
          | map es => exact ⟨trivial, fun k => k⟩
          | row f2 g2 lo2 hi2 sz2 cs2 =>
            obtain ⟨fm2, hf2, hg2⟩ := hlv
            simp only [T.get?_set] at hf2
            by_cases hff : f2 = f
            · subst hff
              simp only [if_true, Option.some.injEq] at hf2
              subst hf2
              obtain ⟨_, fm3, hf3, hg3⟩ := H.fam j _ _ _ _ _ _ hj
              rw [hfm] at hf3; cases hf3
              simp only at hg2
              omega
            · rw [if_neg hff] at hf2
              exact ⟨⟨fm2, hf2, hg2⟩, fun k => hff k⟩
        refine ⟨H.base, below hB, H.dom, fun j o x hj hx => by rw [hsz]; exact H.lto _ _ _ hj hx, ?_, ?_, ?_, H.ty.same (Cast.freeze _ _ _) rfl (Nat.le_refl _)⟩
        · intro j o hj
          obtain ⟨b2, σ2, κ2, hp2, hR2⟩ := H.obj j o hj
          refine ⟨b2, σ2, κ2, hp2, ?_⟩
          by_cases hlive : live (h.fams.set f { fm with gen := g + 1 }) o
          · obtain ⟨l1, l2⟩ := was j o hj hlive
            have hbb : b2 ≠ b := by
              intro hbb
              subst hbb
              by_cases hji : j = i
              · subst hji
                rw [ho] at hj; cases hj
                exact l2 rfl
              · exact l2 (H.sep j i o _ _ _ _ _ _ hji hj ho l1 hil hp2 hp).1
            have hR3 := hR2.same (hne _ hbb)
            cases o with
            | var a n ro => exact hR3
            | map es => exact hR3
            | row f2 g2 lo2 hi2 sz2 cs2 =>
              intro fm2 hf2 hg2
              have hff : f2 ≠ f := fun e => l2 e
              simp only [T.get?_set, if_neg hff] at hf2
              exact hR3 fm2 hf2 hg2
          · cases o with
            | var cs2 n2 ro2 =>
              have hro : ro2 = true := by cases ro2 <;> simp_all [live]
              obtain ⟨e1, e2, e3, e4, e5⟩ := hR2
              rcases e5 hro with hlt2 | hn0
              · exact ORel.same (o := .var cs2 n2 ro2) ⟨e1, e2, e3, e4, e5⟩ (hne _ (fun e => hB (e ▸ B0.sub _ hlt2)))
              · exact ⟨e1, e2, fun k x hk => by omega, fun e => (by rw [hro] at e; cases e), e5⟩
            | row f2 g2 lo2 hi2 sz2 cs2 => intro fm2 hf2 hg2; exact absurd ⟨fm2, hf2, hg2⟩ hlive
            | map es => exact absurd trivial hlive
        · intro j f2 g2 lo2 hi2 sz2 cs2 hj
          obtain ⟨k1, fm2, k2, k3⟩ := H.fam j _ _ _ _ _ _ hj
          refine ⟨k1, ?_⟩
          simp only [T.get?_set]
          by_cases hff : f2 = f
          · subst hff
            rw [hfm] at k2; cases k2
            exact ⟨_, by rw [if_pos rfl], by simp only []; omega⟩
          · exact ⟨fm2, by rw [if_neg hff]; exact k2, k3⟩
        · intro j k oj ok b2 σ2 κ2 σ3 κ3 hjk hj hk lj lk pj pk
          exact H.sep j k oj ok b2 σ2 κ2 σ3 κ3 hjk hj hk (was j oj hj lj).1 (was k ok hk lk).1 pj pk
      · cases hf
    · cases hf
  · cases hf
end Go.Abs
end

section
/- Each quiet operation of the deterministic semantics, held against the model's. -/
open Go.RowKit
namespace Go.Abs
variable {B0 : Zn} {w0 : World} {φ : Map} {h h' : AW} {w : World} {P : Program}
theorem tiOf_ok {t : TypeId} {ti : TI} (ht : tiOf P t = some ti) : ∃ i, P.info? t = some i ∧ P.underlying t = some ti.und ∧ ti.agg = aggOf ti.und ∧ ti.size = i.size ∧ ti.bytes = i.bytes ∧
    (∀ z, ti.zero = some z → i.zero = some z ∧ flat z = true ∧ z.cells.size = ti.size) := by
  unfold tiOf at ht
  split at ht
  · rename_i i u hi hu
    simp only [Option.some.injEq] at ht; subst ht
    refine ⟨i, hi, hu, rfl, rfl, rfl, fun z hz => ?_⟩
    simp only at hz
    split at hz
    · rename_i z' hz'
      split at hz
      · rename_i hb
        simp only [Option.some.injEq] at hz; subst hz
        simp only [Bool.and_eq_true] at hb
        exact ⟨hz', hb.1, Nat.eq_of_beq_eq_true hb.2⟩
      · cases hz
    · cases hz
  · cases ht
theorem run_isAgg' {t : TypeId} {d : TypeDesc} (hu : P.underlying t = some d) (w : World) : (isAgg t).run P w = .ok (aggOf d) w := by
  cases d <;> simp [isAgg, run_underlying hu, aggOf]
theorem run_sizeOf' {t : TypeId} {i : TypeInfo} (hi : P.info? t = some i) (w : World) : (sizeOf t).run P w = .ok i.size w := by simp [sizeOf, typeInfo, hi]
theorem run_typeInfo' {t : TypeId} {i : TypeInfo} (hi : P.info? t = some i) (w : World) : (typeInfo t).run P w = .ok i w := by simp [typeInfo, hi]
theorem run_zeroValue' {t : TypeId} {i : TypeInfo} {z : Value} (hi : P.info? t = some i) (hz : i.zero = some z) (w : World) : (zeroValue t).run P w = .ok z w := by simp [zeroValue, typeInfo, hi, hz]
theorem run_load' {a : Addr} {v : Value} (hc : w.cell? a = some v) : (load a).run P w = .ok v w := by
  rw [run_load]; simp [hc]
theorem VRel.ptr_inv {i off : Nat} {s : Option Nat} {v' : Value} (hv : VRel φ (.pointer (some ⟨i, off, s⟩)) v') : s = none ∧ ∃ b σ κ, φ i = some (b, σ, κ) ∧ σ ≤ off ∧ v' = .pointer (some ⟨b, off - σ, none⟩) := by
  cases hv with
  | ptr hp hs => exact ⟨rfl, _, _, _, hp, hs, rfl⟩
theorem VRel.slice_inv {i off len cap : Nat} {s : Option Nat} {v' : Value} (hv : VRel φ (.slice (some ⟨i, off, s⟩) len cap) v') :
    s = none ∧ ∃ b σ κ a', φ i = some (b, σ, κ) ∧ σ ≤ off ∧ (a' = ⟨b, off - σ, none⟩ ∨ (len = 0 ∧ cap + κ = 0)) ∧ v' = .slice (some a') len (cap + κ) := by
  cases hv with
  | slice hp hs ho => exact ⟨rfl, _, _, _, _, hp, hs, ho, rfl⟩
theorem VRel.sliceN_inv {len cap : Nat} {v' : Value} (hv : VRel φ (.slice none len cap) v') : v' = .slice none len cap := by cases hv; rfl
theorem VRel.map_inv {i : Nat} {v' : Value} (hv : VRel φ (.map (some i)) v') : ∃ b σ κ, φ i = some (b, σ, κ) ∧ v' = .map (some b) := by
  cases hv with | map hp => exact ⟨_, _, _, hp, rfl⟩
theorem VRel.mapN_inv {v' : Value} (hv : VRel φ (.map none) v') : v' = .map none := by cases hv; rfl
theorem VRel.int_inv {k : IntKind} {n : Int} {v' : Value} (hv : VRel φ (.int k n) v') : v' = .int k n := by cases hv; rfl
theorem VRel.bool_inv {b : Bool} {v' : Value} (hv : VRel φ (.bool b) v') : v' = .bool b := by cases hv; rfl
theorem VRel.string_inv {s : ByteArray} {v' : Value} (hv : VRel φ (.string s) v') : v' = .string s := by cases hv; rfl
theorem VRel.agg_inv {cs : Array Value} {v' : Value} (hv : VRel φ (.agg cs) v') : ∃ cs' : Array Value, v' = .agg cs' ∧ LRel φ cs.toList cs'.toList := by
  cases hv with | agg hl h => exact ⟨_, rfl, hl, h⟩
theorem VRel.tuple_inv {cs : Array Value} {v' : Value} (hv : VRel φ (.tuple cs) v') : ∃ cs' : Array Value, v' = .tuple cs' ∧ LRel φ cs.toList cs'.toList := by
  cases hv with | tuple hl h => exact ⟨_, rfl, hl, h⟩
theorem VRel.func_inv {fn : Fn} {f c : Array Value} {v' : Value} (hv : VRel φ (.func fn f c) v') : ∃ f' c' : Array Value, v' = .func fn f' c' ∧ LRel φ f.toList f'.toList ∧ LRel φ c.toList c'.toList := by
  cases hv with | func fn hf hfs hc hcs => exact ⟨_, _, rfl, ⟨hf, hfs⟩, ⟨hc, hcs⟩⟩
theorem loadCells_ok {i b σ κ off n : Nat} {l : List Value} (H : HRel B0 w0 φ h w) (hp : φ i = some (b, σ, κ)) (hr : h.rdN i off n = some l) :
    ∃ l', LRel φ l l' ∧ l'.length = n ∧ (loadCells ⟨b, off - σ, none⟩ n).run P w = .ok ⟨l'⟩ w := by
  obtain ⟨hl, _, l', hlr, hc⟩ := H.rdN hp hr
  refine ⟨l', hlr, by rw [← hlr.1, hl], ?_⟩
  have := run_loadCells_list (P := P) w ⟨b, off - σ, none⟩ l' (fun j v hv => by rw [Addr.add_lit]; exact hc j v hv)
  rw [← hlr.1, hl] at this
  exact this
theorem loadV_ok (H : HRel B0 w0 φ h w) {t : TypeId} {x x' v : Value} (hx : VRel φ x x') (hl : loadV P h t x = some v) :
    ∃ v', (Instr.loadAt t x').run P w = .ok v' w ∧ VRel φ v v' := by
  unfold loadV at hl
  split at hl
  · rename_i i off
    obtain ⟨_, b, σ, κ, hp, hs, rfl⟩ := hx.ptr_inv
    split at hl
    · rename_i ti ht
      obtain ⟨info, hi, hu, hagg, hsz, _⟩ := tiOf_ok ht
      split at hl
      · rename_i ha
        split at hl
        · rename_i l hr
          simp only [Option.some.injEq] at hl; subst hl
          obtain ⟨l', hlr, hlen, hrun⟩ := loadCells_ok (P := P) H hp hr
          refine ⟨.agg ⟨l'⟩, ?_, VRel.agg' hlr⟩
          simp only [Instr.loadAt, Instr.sureAddr, loadVar, Sem.run_bind, Sem.run_pure, Result.andThen_ok, run_isAgg' hu, ← hagg, ha, if_true, run_sizeOf' hi, ← hsz, hrun]
        · cases hl
      · rename_i ha
        obtain ⟨_, v', hc, hv⟩ := H.rd hl hp
        refine ⟨v', ?_, hv⟩
        simp only [Instr.loadAt, Instr.sureAddr, loadVar, Sem.run_bind, Sem.run_pure, Result.andThen_ok, run_isAgg' hu, ← hagg, ha, Bool.false_eq_true, if_false, run_load' hc]
    · cases hl
  · cases hl
theorem VRel.cells_size {v v' : Value} (hv : VRel φ v v') : v'.cells.size = v.cells.size := by
  have := hv.cells.1
  simpa using this.symm
theorem storeV_ok (H : HRel B0 w0 φ h w) {t : TypeId} {a a' v v' : Value} (ha : VRel φ a a') (hv : VRel φ v v') (hs : storeV P h t a v = some h') :
    ∃ w', (Instr.storeAt t a' v').run P w = .ok () w' ∧ HRel B0 w0 φ h' w' := by
  unfold storeV at hs
  split at hs
  · rename_i i off
    obtain ⟨_, b, σ, κ, hp, hσ, rfl⟩ := ha.ptr_inv
    split at hs
    · rename_i ti ht
      obtain ⟨info, hi, hu, hagg, hsz, _⟩ := tiOf_ok ht
      have key : ∀ l l' : List Value, LRel φ l l' → l' = v'.cells.toList → l.length = ti.size → h.wrL i off l = some h' → ∃ w', (Instr.storeAt t (.pointer (some ⟨b, off - σ, none⟩)) v').run P w = .ok () w' ∧ HRel B0 w0 φ h' w' := by
        intro l l' hll hl' hlen hw
        obtain ⟨w', hr, H'⟩ := HRel.wrL (P := P) (h := h) (fun _ => rfl) hp (k := 0) H hw hll (off - σ) (fun _ => ⟨by omega, hσ⟩)
        refine ⟨w', ?_, H'⟩
        have hsize : v'.cells.size = info.size := by
          have : v'.cells.size = l'.length := by rw [hl']; simp
          rw [this, ← hll.1, hlen, hsz]
        simp only [Instr.storeAt, Instr.sureAddr, storeVar, Sem.run_bind, Sem.run_pure, Result.andThen_ok, run_sizeOf' hi, hsize, ne_eq, not_true, if_false]
        rw [← hl']
        exact hr
      split at hs
      · rename_i cs
        split at hs
        · rename_i hb
          obtain ⟨cs', rfl, hcs⟩ := hv.agg_inv
          exact key _ _ hcs rfl (by simpa using beq_true hb) hs
        · cases hs
      · rename_i hna
        split at hs
        · rename_i hb
          have h1 : h.wrL i off [v] = some h' := by simp [AW.wrL, hs]
          refine key [v] [v'] (L2.cons hv L2.nil) ?_ (by simp [beq_true hb]) h1
          cases hv <;> first | rfl | (exfalso; exact hna _ rfl)
        · cases hs
    · cases hs
  · cases hs
theorem partV_ok {t : TypeId} {cs cs' : Array Value} {off : Nat} {v : Value} (hcs : LRel φ cs.toList cs'.toList) (hp : partV P t cs off = some v) :
    ∃ v', (part t cs' off).run P w = .ok v' w ∧ VRel φ v v' := by
  unfold partV at hp
  split at hp
  · rename_i ti ht
    obtain ⟨info, hi, hu, hagg, hsz, _⟩ := tiOf_ok ht
    split at hp
    · rename_i ha
      simp only [Option.some.injEq] at hp; subst hp
      refine ⟨.agg (cs'.extract off (off + ti.size)), ?_, ?_⟩
      · simp only [part, Sem.run_bind, run_isAgg' hu, Result.andThen_ok, ← hagg, ha, if_true, run_sizeOf' hi, ← hsz, Sem.run_pure]
      · have : LRel φ (cs.extract off (off + ti.size)).toList (cs'.extract off (off + ti.size)).toList := by
          simp only [Array.toList_extract, List.extract_eq_take_drop]
          exact (hcs.drop _).take _
        exact VRel.agg' this
    · rename_i ha
      obtain ⟨v', hv', hr⟩ := hcs.get (i := off) (v := v) (by simpa using hp)
      refine ⟨v', ?_, hr⟩
      have hv2 : cs'[off]? = some v' := by simpa using hv'
      simp only [part, Sem.run_bind, run_isAgg' hu, Result.andThen_ok, ← hagg, ha, Bool.false_eq_true, if_false, hv2, Sem.run_pure]
  · cases hp
theorem idx_ok {x x' : Value} {n i : Nat} (hx : VRel φ x x') (hi : idx x n = some i) : ∃ k, x' = .int k (i : Int) ∧ i < n := by
  unfold idx at hi
  split at hi
  · rename_i k j
    split at hi
    · rename_i hb
      simp only [Option.some.injEq] at hi; subst hi
      exact ⟨k, hx.int_inv, ble_true hb⟩
    · cases hi
  · cases hi
theorem indexAddrV_ok {t : TypeId} {x x' i i' v : Value} (hx : VRel φ x x') (hi : VRel φ i i') (hr : indexAddrV P t x i = some v) :
    ∃ v', (Instr.indexAt t x' i').run P w = .ok v' w ∧ VRel φ v v' := by
  unfold indexAddrV at hr
  split at hr
  · rename_i ti ht
    obtain ⟨info, hinf, hu, hagg, hsz, _⟩ := tiOf_ok ht
    split at hr
    · rename_i len elem b off hund
      split at hr
      · rename_i j te hj hte
        simp only [Option.some.injEq] at hr; subst hr
        obtain ⟨info2, hi2, _, _, hsz2, _⟩ := tiOf_ok hte
        obtain ⟨k, rfl, hlt⟩ := idx_ok hi hj
        obtain ⟨_, b', σ, κ, hp, hs, rfl⟩ := hx.ptr_inv
        rw [hund] at hu
        refine ⟨_, ?_, by rw [show ptr b (off + j * te.size) = .pointer (some ⟨b, off + j * te.size, none⟩) from rfl]; exact VRel.ptr hp (by omega)⟩
        have hlt' : (0 : Int) ≤ (j : Int) ∧ (j : Int) < (len : Int) := ⟨by omega, by omega⟩
        simp only [Instr.indexAt, asIntOf, Instr.sureAddr, Sem.run_bind, Sem.run_pure, Result.andThen_ok, run_underlying hu, hlt', and_self, if_true, run_sizeOf' hi2, Int.toNat_natCast, Addr.add_lit]
        rw [show off - σ + j * info2.size = off + j * te.size - σ from by rw [hsz2]; omega]
      · cases hr
    · rename_i elem b off len cap hund
      split at hr
      · rename_i j te hj hte
        simp only [Option.some.injEq] at hr; subst hr
        obtain ⟨info2, hi2, _, _, hsz2, _⟩ := tiOf_ok hte
        obtain ⟨k, rfl, hlt⟩ := idx_ok hi hj
        obtain ⟨_, b', σ, κ, a', hp, hs, ho, rfl⟩ := hx.slice_inv
        rw [hund] at hu
        refine ⟨_, ?_, by rw [show ptr b (off + j * te.size) = .pointer (some ⟨b, off + j * te.size, none⟩) from rfl]; exact VRel.ptr hp (by omega)⟩
        have hlt' : (0 : Int) ≤ (j : Int) ∧ (j : Int) < (len : Int) := ⟨by omega, by omega⟩
        have ho' : a' = ⟨b', off - σ, none⟩ := ho.elim id (fun h => by omega)
        subst ho'
        simp only [Instr.indexAt, asIntOf, Sem.run_bind, Sem.run_pure, Result.andThen_ok, run_underlying hu, hlt', and_self, if_true, run_sizeOf' hi2, Int.toNat_natCast, Addr.add_lit]
        rw [show off - σ + j * info2.size = off + j * te.size - σ from by rw [hsz2]; omega]
      · cases hr
    · cases hr
  · cases hr
theorem indexV_ok {t : TypeId} {x x' i i' v : Value} (hx : VRel φ x x') (hi : VRel φ i i') (hr : indexV P t x i = some v) :
    ∃ v', (Instr.index t x' i').run P w = .ok v' w ∧ VRel φ v v' := by
  unfold indexV at hr
  split at hr
  · rename_i ti ht
    obtain ⟨info, hinf, hu, hagg, hsz, _⟩ := tiOf_ok ht
    split at hr
    · rename_i len elem cs hund
      split at hr
      · rename_i j te hj hte
        obtain ⟨info2, hi2, _, _, hsz2, _⟩ := tiOf_ok hte
        obtain ⟨k, rfl, hlt⟩ := idx_ok hi hj
        obtain ⟨cs', rfl, hcs⟩ := hx.agg_inv
        obtain ⟨v', hrun, hv⟩ := partV_ok (P := P) (w := w) hcs hr
        rw [hund] at hu
        refine ⟨v', ?_, hv⟩
        have hlt' : (0 : Int) ≤ (j : Int) ∧ (j : Int) < (len : Int) := ⟨by omega, by omega⟩
        simp only [Instr.index, asIntOf, Sem.run_bind, Sem.run_pure, Result.andThen_ok, run_underlying hu, hlt', and_self, if_true, run_sizeOf' hi2, Int.toNat_natCast, ← hsz2, hrun]
      · cases hr
    · rename_i s hund
      split at hr
      · rename_i j hj
        obtain ⟨k, rfl, hlt⟩ := idx_ok hi hj
        obtain rfl := hx.string_inv
        rw [hund] at hu
        split at hr
        · rename_i b hb
          simp only [Option.some.injEq] at hr; subst hr
          refine ⟨.int .u8 b.toNat, ?_, .int _ _⟩
          have hge : (0 : Int) ≤ (j : Int) := by omega
          have hb2 : s[j]? = some b := hb
          simp only [Instr.index, asIntOf, Sem.run_bind, Sem.run_pure, Result.andThen_ok, run_underlying hu, hge, if_true, Int.toNat_natCast, hb2]
        · cases hr
      · cases hr
    · cases hr
  · cases hr
theorem fieldAddrV_ok {t : TypeId} {x x' v : Value} {f : Nat} (hx : VRel φ x x') (hr : fieldAddrV P t x f = some v) :
    ∃ v', (Instr.fieldAt t x' f).run P w = .ok v' w ∧ VRel φ v v' := by
  unfold fieldAddrV at hr
  split at hr
  · rename_i ti b off ht
    obtain ⟨info, hinf, hu, hagg, hsz, _⟩ := tiOf_ok ht
    split at hr
    · rename_i fs hund
      split at hr
      · rename_i fd hfd
        split at hr
        · rename_i tf htf
          obtain ⟨info2, hi2, _, _, hsz2, _⟩ := tiOf_ok htf
          split at hr
          · cases hr
          · rename_i hz
            simp only [Option.some.injEq] at hr; subst hr
            obtain ⟨_, b', σ, κ, hp, hs, rfl⟩ := hx.ptr_inv
            rw [hund] at hu
            refine ⟨_, ?_, by rw [show ptr b (off + fd.offset) = .pointer (some ⟨b, off + fd.offset, none⟩) from rfl]; exact VRel.ptr hp (by omega)⟩
            have hne : info2.size ≠ 0 := by
              intro e
              rw [hsz2, e] at hz
              cases hz
            simp only [Instr.fieldAt, Instr.sureAddr, fieldPlace, Sem.run_bind, Sem.run_pure, Result.andThen_ok, run_underlying hu, hfd, run_sizeOf' hi2, hne, if_false, Addr.add_lit]
            rw [show off - σ + fd.offset = off + fd.offset - σ from by omega]
        · cases hr
      · cases hr
    · cases hr
  · cases hr
theorem fieldV_ok {t : TypeId} {x x' v : Value} {f : Nat} (hx : VRel φ x x') (hr : fieldV P t x f = some v) :
    ∃ v', (Instr.field t x' f).run P w = .ok v' w ∧ VRel φ v v' := by
  unfold fieldV at hr
  split at hr
  · rename_i ti cs ht
    obtain ⟨info, hinf, hu, hagg, hsz, _⟩ := tiOf_ok ht
    split at hr
    · rename_i fs hund
      split at hr
      · rename_i fd hfd
        obtain ⟨cs', rfl, hcs⟩ := hx.agg_inv
        obtain ⟨v', hrun, hv⟩ := partV_ok (P := P) (w := w) hcs hr
        rw [hund] at hu
        refine ⟨v', ?_, hv⟩
        simp only [Instr.field, asAgg, Sem.run_bind, Sem.run_pure, Result.andThen_ok, run_underlying hu, hfd, hrun]
      · cases hr
    · cases hr
  · cases hr
end Go.Abs
end

section
/- The other quiet operations: arithmetic, comparisons, conversions, building, slicing, looking up, lengths. -/
open Go.RowKit
namespace Go.Abs
variable {B0 : Zn} {w0 : World} {φ : Map} {h h' : AW} {w : World} {P : Program}
theorem intBin_ok {op : BinOp} {k : IntKind} {x y : Int} {v : Value} {t : TypeId} (hsh : op ≠ .shl ∧ op ≠ .shr) (hr : intBin op k x y = some v) : (binOp op t (.int k x) (.int k y)).run P w = .ok v w := by
  cases op <;> simp only [intBin] at hr
  case quo => split at hr <;> simp_all [binOp, Op.intDiv]
  case rem => split at hr <;> simp_all [binOp, Op.intDiv]
  case shl => exact absurd rfl hsh.1
  case shr => exact absurd rfl hsh.2
  all_goals simp only [Option.some.injEq] at hr; subst hr; simp [binOp, Op.intArith, Op.intCmp, Op.intBits]
theorem strBin_ok {op : BinOp} {x y : ByteArray} {v : Value} {t : TypeId} (hr : strBin op x y = some v) : (binOp op t (.string x) (.string y)).run P w = .ok v w := by
  cases op <;> simp only [strBin] at hr
  case add =>
    split at hr
    · rename_i hb
      have := ble_true hb
      simp only [Option.some.injEq] at hr; subst hr
      have h63 : ¬ (((x.size + y.size : Nat) : Int) > 9223372036854775807) := by omega
      have hm : IntKind.i64.max = 9223372036854775807 := by decide
      simp only [binOp, Op.stringOp, hm, if_neg h63]
      rfl
    · cases hr
  all_goals (try cases hr)
  all_goals simp [binOp, Op.stringOp, ByteArray.toList_eq]
theorem cellEq_rel {x y x' y' : Value} {b : Bool} (hx : VRel φ x x') (hy : VRel φ y y') (he : cellEq x y = some b) : cellEq x' y' = some b := by
  unfold cellEq at he
  split at he
  · cases hx.bool_inv; cases hy.bool_inv; exact he
  · cases hx.int_inv; cases hy.int_inv; exact he
  · cases hx.string_inv; cases hy.string_inv; exact he
  · cases he
theorem cellEq_run' {t : TypeId} {d : TypeDesc} {x y : Value} {b : Bool} {n : Nat} (hd : P.underlying t = some d) (hs : cellFits d x = true) (hk : cellEq x y = some b) :
    (Op.equalIn (n + 1) t x y).run P w = .ok b w := by
  unfold cellEq at hk
  split at hk
  · cases d <;> simp [cellFits] at hs
    simp only [Option.some.injEq] at hk; subst hk
    simp [Op.equalIn, run_underlying hd]
  · cases d <;> simp [cellFits] at hs
    split at hk
    · simp only [Option.some.injEq] at hk; subst hk
      rename_i hkk
      simp [Op.equalIn, run_underlying hd, hkk]
    · cases hk
  · cases d <;> simp [cellFits] at hs
    simp only [Option.some.injEq] at hk; subst hk
    rename_i a b
    simp [Op.equalIn, run_underlying hd, beq_toListBytes, ByteArray.toList_eq]
  · cases hk
theorem cellFits_rel {d : TypeDesc} {x x' : Value} (hx : VRel φ x x') (h : cellFits d x = true) : cellFits d x' = true := by
  cases d <;> cases x <;> simp [cellFits] at h <;> cases hx <;> rfl
theorem eqFields_run {n : Nat} (xs ys : Array Value) : ∀ (fs : List Field) (k : Nat) (X Y : List Value) (b : Bool), plainFields P k fs = true → fieldsEq P fs X Y = some b →
    X = xs.toList.drop k → Y = ys.toList.drop k → (Op.eqFields (n + 1) xs ys fs).run P w = .ok b w
  | [], k, X, Y, b, _, he, hX, hY => by
    cases X <;> cases Y <;> simp [fieldsEq] at he
    subst he; simp [Op.eqFields]
  | f :: fs, k, X, Y, b, hp, he, hX, hY => by
    cases X with
    | nil => cases Y <;> simp [fieldsEq] at he
    | cons x X =>
      cases Y with
      | nil => simp [fieldsEq] at he
      | cons y Y =>
        simp only [plainFields] at hp
        cases hd : P.underlying f.type with
        | none => simp [hd] at hp
        | some d =>
          simp only [hd, Bool.and_eq_true] at hp
          obtain ⟨⟨⟨hname, hoff⟩, hsc⟩, hrest⟩ := hp
          have hoff := Nat.eq_of_beq_eq_true hoff
          simp only [fieldsEq, hd] at he
          split at he
          · rename_i hfit
            have hx0 : xs[k]? = some x := by
              have : (xs.toList.drop k)[0]? = some x := by rw [← hX]; rfl
              simpa using this
            have hy0 : ys[k]? = some y := by
              have : (ys.toList.drop k)[0]? = some y := by rw [← hY]; rfl
              simpa using this
            have hagg : aggOf d = false := by cases d <;> simp [scalar] at hsc <;> rfl
            have hX' : X = xs.toList.drop (k + 1) := by rw [← List.tail_drop, ← hX]; rfl
            have hY' : Y = ys.toList.drop (k + 1) := by rw [← List.tail_drop, ← hY]; rfl
            have hpx : (part f.type xs f.offset).run P w = .ok x w := by
              simp only [part, Sem.run_bind, run_isAgg' hd, Result.andThen_ok, hagg, Bool.false_eq_true, if_false, hoff, hx0, Sem.run_pure]
            have hpy : (part f.type ys f.offset).run P w = .ok y w := by
              simp only [part, Sem.run_bind, run_isAgg' hd, Result.andThen_ok, hagg, Bool.false_eq_true, if_false, hoff, hy0, Sem.run_pure]
            have hname' : f.name ≠ "_" := by simpa using hname
            simp only [Op.eqFields, ne_eq, hname', not_false_eq_true, if_true, Sem.run_bind, hpx, hpy, Result.andThen_ok]
            cases hc : cellEq x y with
            | none => simp [hc] at he
            | some c =>
              rw [cellEq_run' hd hfit hc]
              rw [hc] at he
              cases c with
              | true =>
                simp only [Result.andThen_ok, Bool.not_true, Bool.false_eq_true, if_false]
                exact eqFields_run xs ys fs (k + 1) X Y b hrest he hX' hY'
              | false =>
                simp only [Option.some.injEq] at he; subst he
                simp
          · cases he
theorem fieldsEq_rel : ∀ {fs : List Field} {xs ys xs' ys' : List Value} {b : Bool}, LRel φ xs xs' → LRel φ ys ys' → fieldsEq P fs xs ys = some b → fieldsEq P fs xs' ys' = some b
  | [], [], [], xs', ys', b, hx, hy, he => by cases hx.nil_left; cases hy.nil_left; exact he
  | f :: fs, x :: xs, y :: ys, xs', ys', b, hx, hy, he => by
    obtain ⟨x', tx, rfl, h1, h2⟩ := hx.cons_left
    obtain ⟨y', ty, rfl, h3, h4⟩ := hy.cons_left
    simp only [fieldsEq] at he ⊢
    cases hd : P.underlying f.type with
    | none => simp [hd] at he
    | some d =>
      simp only [hd] at he ⊢
      split at he
      · rename_i hfit
        rw [cellFits_rel h1 hfit]
        simp only []
        cases hc : cellEq x y with
        | none => simp [hc] at he
        | some c =>
          rw [cellEq_rel h1 h3 hc]
          rw [hc] at he
          cases c with
          | true => exact fieldsEq_rel h2 h4 he
          | false => exact he
      · cases he
  | [], [], _ :: _, _, _, _, _, _, he => by simp [fieldsEq] at he
  | [], _ :: _, _, _, _, _, _, _, he => by simp [fieldsEq] at he
  | _ :: _, [], _, _, _, _, _, _, he => by simp [fieldsEq] at he
  | _ :: _, _ :: _, [], _, _, _, _, _, he => by simp [fieldsEq] at he
theorem eqGuard_triv {op : BinOp} {t : TypeId} {o1 o2 : Operand} {x y : Value} (hn : ¬ (x = .nilIface ∧ y = .nilIface)) (ha : ¬ ∃ a b, x = .agg a ∧ y = .agg b) :
    (eqGuard op t o1 o2 x y).run P w = .ok () w := by
  cases op
  case eql => cases x <;> cases y <;> first | (exact absurd ⟨rfl, rfl⟩ hn) | (exact absurd ⟨_, _, rfl, rfl⟩ ha) | rfl
  case neq => cases x <;> cases y <;> first | (exact absurd ⟨rfl, rfl⟩ hn) | (exact absurd ⟨_, _, rfl, rfl⟩ ha) | rfl
  all_goals rfl
section
variable {t : TypeId} (n : Nat)
theorem eq_bool (hu : P.underlying t = some .bool) (a b : Bool) : (Op.equalIn (n + 1) t (.bool a) (.bool b)).run P w = .ok (a == b) w := by simp [Op.equalIn, run_underlying hu]
theorem eq_ptrL {e : TypeId} (hu : P.underlying t = some (.pointer e)) (q : Option Addr) : (Op.equalIn (n + 1) t (.pointer none) (.pointer q)).run P w = .ok q.isNone w := by simp [Op.equalIn, run_underlying hu]
theorem eq_ptrR {e : TypeId} (hu : P.underlying t = some (.pointer e)) (a : Addr) : (Op.equalIn (n + 1) t (.pointer (some a)) (.pointer none)).run P w = .ok false w := by simp [Op.equalIn, run_underlying hu]
theorem eq_ptrS {e : TypeId} {ie : TypeInfo} (hu : P.underlying t = some (.pointer e)) (hi : P.info? e = some ie) (a : Addr) : (Op.equalIn (n + 1) t (.pointer (some a)) (.pointer (some a))).run P w = .ok true w := by
  simp only [Op.equalIn, Sem.run_bind, run_underlying hu, Result.andThen_ok, run_sizeOf' hi]
  split
  · simp [sameAddr]
  · simp
theorem eq_ifN {ms : Array (String × TypeId)} (hu : P.underlying t = some (.interface ms)) : (Op.equalIn (n + 1) t .nilIface .nilIface).run P w = .ok true w := by simp [Op.equalIn, run_underlying hu]
theorem eq_ifL {ms : Array (String × TypeId)} (hu : P.underlying t = some (.interface ms)) (u : TypeId) (v : Value) : (Op.equalIn (n + 1) t .nilIface (.iface u v)).run P w = .ok false w := by simp [Op.equalIn, run_underlying hu]
theorem eq_ifR {ms : Array (String × TypeId)} (hu : P.underlying t = some (.interface ms)) (u : TypeId) (v : Value) : (Op.equalIn (n + 1) t (.iface u v) .nilIface).run P w = .ok false w := by simp [Op.equalIn, run_underlying hu]
theorem eq_ifD {ms : Array (String × TypeId)} (hu : P.underlying t = some (.interface ms)) {u u' : TypeId} (hne : u ≠ u') (v v' : Value) : (Op.equalIn (n + 1) t (.iface u v) (.iface u' v')).run P w = .ok false w := by
  simp only [Op.equalIn, Sem.run_bind, run_underlying hu, Result.andThen_ok, ne_eq, hne, not_false_eq_true, if_true, Sem.run_pure]
theorem eq_ifS {ms : Array (String × TypeId)} (hu : P.underlying t = some (.interface ms)) {u : TypeId} {i : TypeInfo} {kk k : IntKind} (hi : P.info? u = some i) (hc : i.comparable = true) (hk : P.underlying u = some (.int kk)) (a b : Int) : (Op.equalIn (n + 2) t (.iface u (.int k a)) (.iface u (.int k b))).run P w = .ok (a == b) w := by
  rw [Op.equalIn]
  simp only [Sem.run_bind, run_underlying hu, Result.andThen_ok, ne_eq, not_true, if_false, run_typeInfo' hi, hc, Bool.not_true, Bool.false_eq_true]
  simp [Op.equalIn, run_underlying hk]
theorem eq_slL {e : TypeId} (hu : P.underlying t = some (.slice e)) (q : Option Addr) (a b c d : Nat) : (Op.equalIn (n + 1) t (.slice none a b) (.slice q c d)).run P w = .ok q.isNone w := by simp [Op.equalIn, run_underlying hu]
theorem eq_slR {e : TypeId} (hu : P.underlying t = some (.slice e)) (q : Addr) (a b c d : Nat) : (Op.equalIn (n + 1) t (.slice (some q) a b) (.slice none c d)).run P w = .ok false w := by simp [Op.equalIn, run_underlying hu]
theorem eq_mpL {k e : TypeId} (hu : P.underlying t = some (.map k e)) (q : Option Nat) : (Op.equalIn (n + 1) t (.map none) (.map q)).run P w = .ok q.isNone w := by simp [Op.equalIn, run_underlying hu]
theorem eq_mpR {k e : TypeId} (hu : P.underlying t = some (.map k e)) (q : Nat) : (Op.equalIn (n + 1) t (.map (some q)) (.map none)).run P w = .ok false w := by simp [Op.equalIn, run_underlying hu]
theorem eq_fnN {a b : Array TypeId} {c : Bool} (hu : P.underlying t = some (.func a b c)) : (Op.equalIn (n + 1) t .nilFunc .nilFunc).run P w = .ok true w := by simp [Op.equalIn, run_underlying hu]
theorem eq_fnL {a b : Array TypeId} {c : Bool} (hu : P.underlying t = some (.func a b c)) (f : Fn) (x y : Array Value) : (Op.equalIn (n + 1) t .nilFunc (.func f x y)).run P w = .ok false w := by simp [Op.equalIn, run_underlying hu]
theorem eq_fnR {a b : Array TypeId} {c : Bool} (hu : P.underlying t = some (.func a b c)) (f : Fn) (x y : Array Value) : (Op.equalIn (n + 1) t (.func f x y) .nilFunc).run P w = .ok false w := by simp [Op.equalIn, run_underlying hu]
end
theorem eqV_ok {t : TypeId} {lit : Bool} {x y x' y' : Value} {b : Bool} (hx : VRel φ x x') (hy : VRel φ y y') (he : eqV P t lit x y = some b) :
    (Op.equal t x' y').run P w = .ok b w ∧ (∀ (op : BinOp) (o1 o2 : Operand), (isConst o1 || isConst o2) = lit → (eqGuard op t o1 o2 x' y').run P w = .ok () w) := by
  unfold eqV at he
  split at he
  · rename_i ti ht
    obtain ⟨info, hi, hu, -⟩ := tiOf_ok ht
    split at he
    · rename_i hd
      cases hx.bool_inv; cases hy.bool_inv
      rw [hd] at hu
      simp only [Option.some.injEq] at he; subst he
      exact ⟨eq_bool 9999 hu _ _, fun op o1 o2 _ => eqGuard_triv (by simp) (by simp)⟩
    · rename_i e q hd
      cases hx
      rw [hd] at hu
      simp only [Option.some.injEq] at he; subst he
      cases hy
      · exact ⟨eq_ptrL 9999 hu _, fun op o1 o2 _ => eqGuard_triv (by simp) (by simp)⟩
      · exact ⟨eq_ptrL 9999 hu _, fun op o1 o2 _ => eqGuard_triv (by simp) (by simp)⟩
    · rename_i e a hd
      cases hx; cases hy
      rw [hd] at hu
      simp only [Option.some.injEq] at he; subst he
      exact ⟨eq_ptrR 9999 hu _, fun op o1 o2 _ => eqGuard_triv (by simp) (by simp)⟩
    · rename_i e i off j off' hd
      split at he
      · rename_i hb
        simp only [Option.some.injEq] at he; subst he
        simp only [Bool.and_eq_true] at hb
        have e1 := beq_true hb.1.1
        have e2 := beq_true hb.1.2
        subst e1; subst e2
        obtain ⟨_, b1, σ1, κ1, hp1, hs1, rfl⟩ := hx.ptr_inv
        obtain ⟨_, b2, σ2, κ2, hp2, hs2, rfl⟩ := hy.ptr_inv
        rw [hp1] at hp2; cases hp2
        rw [hd] at hu
        obtain ⟨te, hte⟩ := Option.isSome_iff_exists.1 hb.2
        obtain ⟨ie, hel, -⟩ := tiOf_ok hte
        exact ⟨eq_ptrS 9999 hu hel _, fun op o1 o2 _ => eqGuard_triv (by simp) (by simp)⟩
      · cases he
    · rename_i ms hd
      cases hx; cases hy
      rw [hd] at hu
      cases lit with
      | false => cases he
      | true =>
        simp only [Option.some.injEq] at he; subst he
        refine ⟨eq_ifN 9999 hu, fun op o1 o2 hl => ?_⟩
        cases op <;> cases o1 <;> cases o2 <;> first | rfl | (simp [isConst] at hl)
    · rename_i ms t2 v2 hd
      cases hx; cases hy
      rw [hd] at hu
      simp only [Option.some.injEq] at he; subst he
      exact ⟨eq_ifL 9999 hu _ _, fun op o1 o2 _ => eqGuard_triv (by simp) (by simp)⟩
    · rename_i ms t2 v2 hd
      cases hx; cases hy
      rw [hd] at hu
      simp only [Option.some.injEq] at he; subst he
      exact ⟨eq_ifR 9999 hu _ _, fun op o1 o2 _ => eqGuard_triv (by simp) (by simp)⟩
    · rename_i ms t2 v2 t3 v3 hd
      cases hx; cases hy
      rename_i w2 hv w3 hw
      rw [hd] at hu
      split at he
      · rename_i heq
        subst heq
        unfold ifSame at he
        split at he
        · rename_i i kk k a k' b hi hk
          split at he
          · rename_i hb
            simp only [Bool.and_eq_true, decide_eq_true_eq] at hb
            obtain ⟨hb, rfl⟩ := hb
            simp only [Option.some.injEq] at he; subst he
            have e1 := hv.int_inv
            have e2 := hw.int_inv
            subst e1; subst e2
            exact ⟨eq_ifS 9998 hu hi hb hk _ _, fun op o1 o2 _ => eqGuard_triv (by simp) (by simp)⟩
          · cases he
        · cases he
      · rename_i hne
        simp only [Option.some.injEq] at he; subst he
        exact ⟨eq_ifD 9999 hu hne _ _, fun op o1 o2 _ => eqGuard_triv (by simp) (by simp)⟩
    · rename_i e _ _ q _ _ hd
      cases hx
      rw [hd] at hu
      simp only [Option.some.injEq] at he; subst he
      cases hy
      · exact ⟨eq_slL 9999 hu _ _ _ _ _, fun op o1 o2 _ => eqGuard_triv (by simp) (by simp)⟩
      · exact ⟨eq_slL 9999 hu _ _ _ _ _, fun op o1 o2 _ => eqGuard_triv (by simp) (by simp)⟩
    · rename_i e a _ _ _ _ hd
      cases hx; cases hy
      rw [hd] at hu
      simp only [Option.some.injEq] at he; subst he
      exact ⟨eq_slR 9999 hu _ _ _ _ _, fun op o1 o2 _ => eqGuard_triv (by simp) (by simp)⟩
    · rename_i k e q hd
      cases hx
      rw [hd] at hu
      simp only [Option.some.injEq] at he; subst he
      cases hy
      · exact ⟨eq_mpL 9999 hu _, fun op o1 o2 _ => eqGuard_triv (by simp) (by simp)⟩
      · exact ⟨eq_mpL 9999 hu _, fun op o1 o2 _ => eqGuard_triv (by simp) (by simp)⟩
    · rename_i k e a hd
      cases hx; cases hy
      rw [hd] at hu
      simp only [Option.some.injEq] at he; subst he
      exact ⟨eq_mpR 9999 hu _, fun op o1 o2 _ => eqGuard_triv (by simp) (by simp)⟩
    · rename_i ps rs vr hd
      cases hx; cases hy
      rw [hd] at hu
      simp only [Option.some.injEq] at he; subst he
      exact ⟨eq_fnN 9999 hu, fun op o1 o2 _ => eqGuard_triv (by simp) (by simp)⟩
    · rename_i ps rs vr fn f c hd
      cases hx; cases hy
      rw [hd] at hu
      simp only [Option.some.injEq] at he; subst he
      exact ⟨eq_fnL 9999 hu _ _ _, fun op o1 o2 _ => eqGuard_triv (by simp) (by simp)⟩
    · rename_i ps rs vr fn f c hd
      cases hx; cases hy
      rw [hd] at hu
      simp only [Option.some.injEq] at he; subst he
      exact ⟨eq_fnR 9999 hu _ _ _, fun op o1 o2 _ => eqGuard_triv (by simp) (by simp)⟩
    · rename_i fs xs ys hd
      split at he
      · rename_i hpl
        simp only [plainEq, Bool.and_eq_true, Bool.not_eq_true'] at hpl
        obtain ⟨⟨hpf, hst⟩, hgu⟩ := hpl
        obtain ⟨xs', rfl, hxs⟩ := hx.agg_inv
        obtain ⟨ys', rfl, hys⟩ := hy.agg_inv
        rw [hd] at hu
        have hfo : P.fieldsOf t = fs := by simp [Program.fieldsOf, hu]
        refine ⟨?_, fun op o1 o2 _ => ?_⟩
        · have := run_equalIn_struct w 9999 t xs' ys' (by rw [hfo]; exact hu) hst
          rw [hfo] at this
          exact this.trans (eqFields_run (n := 9998) xs' ys' fs.toList 0 _ _ b hpf (fieldsEq_rel hxs hys he) (by simp) (by simp))
        · cases op <;> first | rfl | simp [eqGuard, hgu]
      · cases he
    · cases he
  · cases he
theorem intBin_flat {op : BinOp} {k : IntKind} {x y : Int} {v : Value} (h : intBin op k x y = some v) : flat v = true := by
  cases op <;> simp only [intBin] at h <;> (try split at h) <;> first | (cases h; rfl) | cases h
theorem strBin_flat {op : BinOp} {x y : ByteArray} {v : Value} (h : strBin op x y = some v) : flat v = true := by
  cases op <;> simp only [strBin] at h <;> (try split at h) <;> first | (cases h; rfl) | cases h
def eqShape : Value → Bool
  | .bool _ | .pointer _ | .nilIface | .iface _ _ | .slice _ _ _ | .map _ | .func _ _ _ | .nilFunc | .agg _ => true
  | _ => false
theorem eqV_shape {t : TypeId} {lit : Bool} {x y : Value} {b : Bool} (he : eqV P t lit x y = some b) : eqShape x = true := by
  unfold eqV at he
  split at he
  · split at he <;> first | rfl | cases he
  · cases he
theorem VRel.shape {x x' : Value} (hx : VRel φ x x') (h : eqShape x = true) : eqShape x' = true := by
  cases hx <;> first | rfl | (simp [eqShape] at h)
theorem run_eql {t : TypeId} {x y : Value} {b : Bool} (hx : eqShape x = true) (hr : (Op.equal t x y).run P w = .ok b w) : (binOp .eql t x y).run P w = .ok (.bool b) w := by
  have : binOp .eql t x y = (do pure (.bool (← Op.equal t x y)) : Sem Value) := by
    cases x <;> first | (simp [eqShape] at hx; done) | (cases y <;> rfl)
  rw [this]
  simp only [Sem.run_bind, hr, Result.andThen_ok, Sem.run_pure]
theorem run_neq {t : TypeId} {x y : Value} {b : Bool} (hx : eqShape x = true) (hr : (Op.equal t x y).run P w = .ok b w) : (binOp .neq t x y).run P w = .ok (.bool !b) w := by
  have : binOp .neq t x y = (do pure (.bool (!(← Op.equal t x y))) : Sem Value) := by
    cases x <;> first | (simp [eqShape] at hx; done) | (cases y <;> rfl)
  rw [this]
  simp only [Sem.run_bind, hr, Result.andThen_ok, Sem.run_pure]
theorem binV_ok {op : BinOp} {t : TypeId} {o1 o2 : Operand} {x y x' y' v : Value} (hx : VRel φ x x') (hy : VRel φ y y') (hr : binV P op t (isConst o1 || isConst o2) x y = some v) :
    (do eqGuard op t o1 o2 x' y'; binOp op t x' y' : Sem Value).run P w = .ok v w ∧ VRel φ v v := by
  have guard : (¬ (x' = .nilIface ∧ y' = .nilIface) ∧ ¬ ∃ a b, x' = .agg a ∧ y' = .agg b) → (binOp op t x' y').run P w = .ok v w → (do eqGuard op t o1 o2 x' y'; binOp op t x' y' : Sem Value).run P w = .ok v w := by
    intro hg hb
    simp only [Sem.run_bind, eqGuard_triv hg.1 hg.2, Result.andThen_ok]
    exact hb
  unfold binV at hr
  split at hr
  · cases hx.int_inv; cases hy.int_inv
    split at hr
    · cases hr
    · rename_i hb
      simp only [Option.some.injEq] at hr; subst hr
      exact ⟨guard ⟨by simp, by simp⟩ (by simp [binOp, Op.shift, hb]), .int _ _⟩
  · cases hx.int_inv; cases hy.int_inv
    split at hr
    · cases hr
    · rename_i hb
      simp only [Option.some.injEq] at hr; subst hr
      exact ⟨guard ⟨by simp, by simp⟩ (by simp [binOp, Op.shift, hb]), .int _ _⟩
  · cases hx.int_inv; cases hy.int_inv
    split at hr
    · rename_i hk
      subst hk
      have hsh : op ≠ .shl ∧ op ≠ .shr := by
        constructor <;> (rintro rfl; simp [intBin] at hr)
      exact ⟨guard ⟨by simp, by simp⟩ (intBin_ok hsh hr), flat_rel (intBin_flat hr)⟩
    · cases hr
  · cases hx.string_inv; cases hy.string_inv
    exact ⟨guard ⟨by simp, by simp⟩ (strBin_ok hr), flat_rel (strBin_flat hr)⟩
  · split at hr
    · rename_i c hc
      simp only [Option.some.injEq] at hr; subst hr
      obtain ⟨h1, h2⟩ := eqV_ok (w := w) hx hy hc
      refine ⟨?_, .bool _⟩
      simp only [Sem.run_bind, h2 .eql o1 o2 rfl, Result.andThen_ok]
      exact run_eql (hx.shape (eqV_shape hc)) h1
    · cases hr
  · split at hr
    · rename_i c hc
      simp only [Option.some.injEq] at hr; subst hr
      obtain ⟨h1, h2⟩ := eqV_ok (w := w) hx hy hc
      refine ⟨?_, .bool _⟩
      simp only [Sem.run_bind, h2 .neq o1 o2 rfl, Result.andThen_ok]
      exact run_neq (hx.shape (eqV_shape hc)) h1
    · cases hr
  · cases hr
theorem unV_ok {op : UnOp} {x x' v : Value} (hx : VRel φ x x') (hr : unV op x = some v) : (Op.unary op x').run P w = .ok v w ∧ VRel φ v v := by
  unfold unV at hr
  split at hr
  · cases hx.bool_inv
    simp only [Option.some.injEq] at hr; subst hr
    exact ⟨by simp [Op.unary], .bool _⟩
  · cases hx.int_inv
    simp only [Option.some.injEq] at hr; subst hr
    exact ⟨by simp [Op.unary, Op.intArith], .int _ _⟩
  · cases hx.int_inv
    have hf := intBin_flat hr
    simp only [intBin, Option.some.injEq] at hr; subst hr
    exact ⟨by simp [Op.unary, Op.intBits], .int _ _⟩
  · cases hr
end Go.Abs
end

section
/- Conversions, building, slicing, looking up, lengths. -/
open Go.RowKit
namespace Go.Abs
variable {B0 : Zn} {w0 : World} {φ : Map} {h h' : AW} {w : World} {P : Program}
theorem bytesV_ok : ∀ {l : List Value} {bs : List UInt8}, bytesV l = some bs → ∃ ns : List Int, l = ns.map (Value.int .u8) ∧ bs = ns.map fun n => UInt8.ofNat n.toNat := by
  intro l
  induction l with
  | nil => intro bs hb; simp only [bytesV, Option.some.injEq] at hb; subst hb; exact ⟨[], rfl, rfl⟩
  | cons x l ih =>
    intro bs hb
    unfold bytesV at hb
    split at hb
    · rename_i heq; cases heq
    · rename_i n l2 heq
      simp only [List.cons.injEq] at heq
      obtain ⟨rfl, rfl⟩ := heq
      split at hb
      · rename_i r hr
        simp only [Option.some.injEq] at hb; subst hb
        obtain ⟨ns, rfl, rfl⟩ := ih hr
        exact ⟨n :: ns, rfl, rfl⟩
      · cases hb
    · cases hb
theorem LRel_ints {k : IntKind} : ∀ {ns : List Int} {l' : List Value}, LRel φ (ns.map (Value.int k)) l' → l' = ns.map (Value.int k) := by
  intro ns
  induction ns with
  | nil => intro l' h; exact h.nil_left
  | cons n ns ih =>
    intro l' h
    obtain ⟨x, t, rfl, h1, h2⟩ := L2.cons_left (l := ns.map (Value.int k)) (a := .int k n) h
    cases h1.int_inv
    rw [ih h2]; rfl
theorem foldl_push : ∀ (ns : List Int) (s : ByteArray), (ns.foldl (fun r n => r.push (UInt8.ofNat n.toNat)) s) = ⟨⟨s.data.toList ++ ns.map fun n => UInt8.ofNat n.toNat⟩⟩
  | [], s => by simp
  | n :: ns, s => by
    rw [List.foldl_cons, foldl_push ns]
    simp [ByteArray.push]
theorem convQ_ok (H : HRel B0 w0 φ h w) {src dst : TypeId} {x x' v : Value} (hx : VRel φ x x') (hr : convQ P h src dst x = some v) :
    (convert src dst x').run P w = .ok v w ∧ VRel φ v v := by
  unfold convQ at hr
  split at hr
  · rename_i s d hs hd
    obtain ⟨is, his, hus, -⟩ := tiOf_ok hs
    obtain ⟨id, hid, hud, -⟩ := tiOf_ok hd
    split at hr
    · rename_i hdu
      cases hx.int_inv
      simp only [Option.some.injEq] at hr; subst hr
      rw [hdu] at hud
      refine ⟨?_, .int _ _⟩
      simp [convert, run_underlying hus, run_underlying hud, Conv.intToInt]
    · rename_i hdu
      cases hx.int_inv
      simp only [Option.some.injEq] at hr; subst hr
      rw [hdu] at hud
      refine ⟨?_, .string _⟩
      simp [convert, run_underlying hus, run_underlying hud, Conv.intToString]
    · rename_i hdu
      cases hx.string_inv
      simp only [Option.some.injEq] at hr; subst hr
      rw [hdu] at hud
      refine ⟨?_, .string _⟩
      simp [convert, run_underlying hus, run_underlying hud]
    · rename_i hdu
      cases hx.sliceN_inv
      rw [hdu] at hud
      split at hr
      · rename_i e hsu
        rw [hsu] at hus
        split at hr
        · rename_i te hte
          obtain ⟨ie, hie, hue, -⟩ := tiOf_ok hte
          split at hr
          · rename_i heu
            rw [heu] at hue
            simp only [Option.some.injEq] at hr; subst hr
            refine ⟨?_, .string _⟩
            rw [run_convert_bytes_string w src dst e _ _ _ hus hue hud]
            simp [Conv.bytesToString]
          · cases hr
        · cases hr
      · cases hr
    · rename_i i off len cap hdu
      obtain ⟨_, b, σ, κ, a', hp, hσ, ho, rfl⟩ := hx.slice_inv
      rw [hdu] at hud
      split at hr
      · rename_i e hsu
        rw [hsu] at hus
        split at hr
        · rename_i te hte
          obtain ⟨ie, hie, hue, -⟩ := tiOf_ok hte
          split at hr
          · rename_i heu
            rw [heu] at hue
            split at hr
            · rename_i l hl
              split at hr
              · rename_i bs hbs
                simp only [Option.some.injEq] at hr; subst hr
                refine ⟨?_, .string _⟩
                rw [run_convert_bytes_string w src dst e _ _ _ hus hue hud]
                obtain ⟨l', hlr, hlen, hrun⟩ := loadCells_ok (P := P) H hp hl
                obtain ⟨ns, rfl, rfl⟩ := bytesV_ok hbs
                have hl' := LRel_ints hlr
                have hrun2 : (loadCells a' len).run P w = .ok (ns.map (Value.int .u8)).toArray w := by
                  rcases ho with rfl | ⟨rfl, _⟩
                  · rw [hl'] at hrun; exact hrun
                  · have h0 : ns.map (Value.int IntKind.u8) = [] := by rw [← hl']; exact List.eq_nil_of_length_eq_zero hlen
                    rw [h0]; rfl
                rw [run_bytesToString w _ _ _ ns hrun2, foldl_push]
                simp
              · cases hr
            · cases hr
          · cases hr
        · cases hr
      · cases hr
    · cases hr
  · cases hr
theorem bnd_ok {x x' : Value} {n i : Nat} (hx : VRel φ x x') (hi : bnd x n = some i) : ∃ k, x' = .int k (i : Int) ∧ i ≤ n := by
  unfold bnd at hi
  split at hi
  · rename_i k j
    split at hi
    · rename_i hb
      simp only [Option.some.injEq] at hi; subst hi
      exact ⟨k, hx.int_inv, ble_true hb⟩
    · cases hi
  · cases hi
def ORelV (φ : Map) : Option Value → Option Value → Prop
  | none, none => True
  | some x, some y => VRel φ x y
  | _, _ => False
theorem sliceBounds_ok {isSlice : Bool} {len cap : Nat} {lo lo' hi hi' : Option Value} {l u : Nat} (hlo : ORelV φ lo lo') (hhi : ORelV φ hi hi') {cap' : Nat} (hc : cap ≤ cap')
    (h1 : bndO hi cap len = some u) (h2 : bndO lo u 0 = some l) :
    (Instr.sliceBounds isSlice len cap' lo' hi' none).run P w = .ok (l, u, cap') w ∧ l ≤ u ∧ (hi = none → u = len) ∧ (hi ≠ none → u ≤ cap) := by
  cases hi with
  | none =>
    cases hi' with
    | some _ => exact hhi.elim
    | none =>
      simp only [bndO, Option.some.injEq] at h1; subst h1
      cases lo with
      | none =>
        cases lo' with
        | some _ => exact hlo.elim
        | none =>
          simp only [bndO, Option.some.injEq] at h2; subst h2
          exact ⟨by simp [Instr.sliceBounds], by omega, fun _ => rfl, fun h => absurd rfl h⟩
      | some x =>
        cases lo' with
        | none => exact hlo.elim
        | some y =>
          obtain ⟨k, rfl, hle⟩ := bnd_ok hlo h2
          have r := fun c => run_sliceBound (P := P) w k (l : Int) len c (by omega) (by omega)
          exact ⟨by simp [Instr.sliceBounds, r], hle, fun _ => rfl, fun h => absurd rfl h⟩
  | some z =>
    cases hi' with
    | none => exact hhi.elim
    | some z' =>
      obtain ⟨k2, rfl, hle2⟩ := bnd_ok hhi h1
      have r2 := fun c => run_sliceBound (P := P) w k2 (u : Int) cap' c (by omega) (by omega)
      cases lo with
      | none =>
        cases lo' with
        | some _ => exact hlo.elim
        | none =>
          simp only [bndO, Option.some.injEq] at h2; subst h2
          exact ⟨by simp [Instr.sliceBounds, r2], by omega, fun h => (by cases h), fun _ => hle2⟩
      | some x =>
        cases lo' with
        | none => exact hlo.elim
        | some y =>
          obtain ⟨k, rfl, hle⟩ := bnd_ok hlo h2
          have r := fun c => run_sliceBound (P := P) w k (l : Int) u c (by omega) (by omega)
          exact ⟨by simp [Instr.sliceBounds, r, r2], hle, fun h => (by cases h), fun _ => hle2⟩
theorem sliceQ_ok (H : HRel B0 w0 φ h w) {t : TypeId} {x x' v : Value} {lo lo' hi hi' : Option Value} (hx : VRel φ x x') (hlo : ORelV φ lo lo') (hhi : ORelV φ hi hi') (hr : sliceQ P h t x lo hi = some v) :
    ∃ v', (Instr.sliceAt t x' lo' hi' none).run P w = .ok v' w ∧ VRel φ v v' := by
  unfold sliceQ at hr
  split at hr
  · rename_i ti ht
    obtain ⟨it, hit, hut, -⟩ := tiOf_ok ht
    split at hr
    · rename_i s hd
      cases hx.string_inv
      rw [hd] at hut
      split at hr
      · rename_i u hu
        split at hr
        · rename_i l hl
          simp only [Option.some.injEq] at hr; subst hr
          obtain ⟨hb, -⟩ := sliceBounds_ok (P := P) (w := w) (isSlice := false) hlo hhi (Nat.le_refl _) hu hl
          refine ⟨.string (s.extract l u), ?_, ?_⟩
          · simp only [Instr.sliceAt, Instr.slice, Sem.run_bind, run_underlying hut, Result.andThen_ok, Option.isSome_none, Bool.false_eq_true, if_false, hb, Sem.run_pure]
          · have : (⟨⟨(s.data.toList.drop l).take (u - l)⟩⟩ : ByteArray) = s.extract l u := by
              apply ByteArray.ext
              simp only [ByteArray.data_extract]
              apply Array.ext'
              simp [List.extract_eq_take_drop]
            rw [this]; exact .string _
        · cases hr
      · cases hr
    · rename_i elem a len cap hd
      rw [hd] at hut
      split at hr
      · rename_i u hu
        split at hr
        · rename_i l te hl hte hble
          have hble := ble_true hble
          obtain ⟨ie, hie, hue, hagg, hsz, -⟩ := tiOf_ok hte
          split at hr
          · rename_i b off
            simp only [Option.some.injEq] at hr; subst hr
            obtain ⟨_, b', σ, κ, a', hp, hσ, ho, rfl⟩ := hx.slice_inv
            obtain ⟨hb, q1, q3, q4⟩ := sliceBounds_ok (P := P) (w := w) (isSlice := true) (cap' := cap + κ) hlo hhi (by omega) hu hl
            refine ⟨.slice (if cap + κ = l then some a' else some (a'.add (l * ie.size))) (u - l) (cap + κ - l), ?_, ?_⟩
            · simp only [Instr.sliceAt, Instr.slice, Sem.run_bind, run_underlying hut, Result.andThen_ok, hb, run_sizeOf' hie, Sem.run_pure, Option.map_some, Addr.add_lit]
            · rw [show cap + κ - l = (cap - l) + κ from by omega]
              split
              · rename_i hz
                exact VRel.slice hp (by omega) (.inr ⟨by omega, by omega⟩)
              · rename_i hz
                rcases ho with rfl | ⟨rfl, hc0⟩
                · exact VRel.slice hp (by omega) (.inl (by rw [hsz, Addr.add_lit]; congr 1; omega))
                · exact absurd (show cap + κ = l by omega) hz
          · cases hr
          · simp only [Option.some.injEq] at hr; subst hr
            cases hx.sliceN_inv
            obtain ⟨hb, q1, q3, q4⟩ := sliceBounds_ok (P := P) (w := w) (isSlice := true) hlo hhi (Nat.le_refl _) hu hl
            refine ⟨.slice none (u - l) (cap - l), ?_, .sliceN _ _⟩
            simp only [Instr.sliceAt, Instr.slice, Sem.run_bind, run_underlying hut, Result.andThen_ok, hb, run_sizeOf' hie, Sem.run_pure, Option.map_none, ite_self]
        · cases hr
      · cases hr
    · rename_i n elem b off hd
      rw [hd] at hut
      split at hr
      · rename_i u hu
        split at hr
        · rename_i l te cs0 n0 ro0 hl hte hob
          obtain ⟨ie, hie, hue, hagg, hsz, -⟩ := tiOf_ok hte
          simp only [Option.some.injEq] at hr; subst hr
          obtain ⟨_, b', σ, κ, hp, hσ, rfl⟩ := hx.ptr_inv
          obtain ⟨hb, q1, q3, q4⟩ := sliceBounds_ok (P := P) (w := w) (isSlice := false) hlo hhi (Nat.le_refl _) hu hl
          refine ⟨.slice (some (if n = l then ⟨b', off - σ, none⟩ else ⟨b', off - σ + l * ie.size, none⟩)) (u - l) (n - l), ?_, ?_⟩
          · simp only [Instr.sliceAt, Instr.sureAddr, Sem.run_bind, Sem.run_pure, run_underlying hut, Result.andThen_ok, hb, run_sizeOf' hie, Addr.add_lit]
          · have hun : u ≤ n := by
              cases hi with
              | none => exact Nat.le_of_eq (q3 rfl)
              | some _ => exact q4 (by simp)
            obtain ⟨b2, σ2, κ2, hp2, hR⟩ := H.obj b _ hob
            rw [hp] at hp2; cases hp2
            obtain ⟨rfl, rfl, -⟩ := hR
            split
            · rename_i hz
              exact VRel.slice hp (by omega) (.inr ⟨by omega, by omega⟩)
            · rename_i hz
              exact VRel.slice hp (by omega) (.inl (by rw [hsz]; congr 1; try omega))
        · cases hr
      · cases hr
    · cases hr
  · cases hr
theorem fold_set_rel {off : Nat} : ∀ (l l' : List Value) (k : Nat) (cs cs' : Array Value), LRel φ l l' → LRel φ cs.toList cs'.toList →
    LRel φ ((l.zipIdx k).foldl (fun cs (p : Value × Nat) => cs.setIfInBounds (off + p.2) p.1) cs).toList ((l'.zipIdx k).foldl (fun cs (p : Value × Nat) => cs.setIfInBounds (off + p.2) p.1) cs').toList
  | [], l', k, cs, cs', hl, hc => by cases hl.nil_left; exact hc
  | v :: l, l', k, cs, cs', hl, hc => by
    obtain ⟨v', t, rfl, h1, h2⟩ := hl.cons_left
    simp only [List.zipIdx_cons, List.foldl_cons]
    exact fold_set_rel l t (k + 1) _ _ h2 (by simp only [Array.toList_setIfInBounds]; exact hc.set _ h1)
theorem fill_rel {place : Nat → Option (Nat × Nat)} : ∀ (ps ps' : List (Nat × Value)) (cs cs' r : Array Value), L2 (fun (p q : Nat × Value) => p.1 = q.1 ∧ VRel φ p.2 q.2) ps ps' → LRel φ cs.toList cs'.toList →
    Instr.fill place cs ps = some r → ∃ r', Instr.fill place cs' ps' = some r' ∧ LRel φ r.toList r'.toList
  | [], ps', cs, cs', r, hp, hc, hr => by
    cases hp.nil_left
    simp only [Instr.fill, Option.some.injEq] at hr; subst hr
    exact ⟨cs', rfl, hc⟩
  | (i, v) :: ps, ps', cs, cs', r, hp, hc, hr => by
    obtain ⟨⟨i', v'⟩, t, rfl, ⟨rfl, hv⟩, h2⟩ := hp.cons_left
    simp only [Instr.fill] at hr ⊢
    cases hpl : place i with
    | none => simp [hpl] at hr
    | some q =>
      obtain ⟨off, size⟩ := q
      simp only [hpl] at hr ⊢
      have hs : v'.cells.size = v.cells.size := hv.cells_size
      have hcs : cs'.size = cs.size := by have := hc.1; simpa using this.symm
      split at hr
      · cases hr
      · rename_i hcond
        rw [hs, hcs, if_neg hcond]
        refine fill_rel ps t _ _ r h2 ?_ hr
        rw [← Array.foldl_toList, ← Array.foldl_toList, Array.toList_zipIdx, Array.toList_zipIdx]
        exact fold_set_rel v.cells.toList v'.cells.toList 0 cs cs' hv.cells hc
theorem placesOf_ok : ∀ {fs : List Field} {pl : List (Nat × Nat)}, placesOf P fs = some pl → fs.mapM (fun f => (P.info? f.type).map fun i => (f.offset, i.size)) = some pl
  | [], pl, h => by simp only [placesOf, Option.some.injEq] at h; subst h; rfl
  | f :: fs, pl, h => by
    simp only [placesOf] at h
    split at h
    · rename_i tf r htf hr
      simp only [Option.some.injEq] at h; subst h
      obtain ⟨i, hi, _, _, hsz, -⟩ := tiOf_ok htf
      rw [List.mapM_cons, hi, placesOf_ok hr]
      simp [hsz]
    · cases h
theorem buildV_ok {t : TypeId} {ps : List (Nat × Value)} {ps' : Array (Nat × Value)} {v : Value} (hp : L2 (fun (p q : Nat × Value) => p.1 = q.1 ∧ VRel φ p.2 q.2) ps ps'.toList) (hr : buildV P t ps = some v) :
    ∃ v', (Instr.build t ps').run P w = .ok v' w ∧ VRel φ v v' := by
  unfold buildV at hr
  split at hr
  · rename_i ti ht
    obtain ⟨it, hit, hut, hagg, hsz, hby, hz⟩ := tiOf_ok ht
    split at hr
    · rename_i z hzz
      obtain ⟨hz1, hz2, hz3⟩ := hz z hzz
      have hzr : LRel φ z.cells.toList z.cells.toList := (flat_rel hz2).cells
      split at hr
      · rename_i fs hd
        rw [hd] at hut
        split at hr
        · rename_i pl hpl
          split at hr
          · rename_i cs hcs
            simp only [Option.some.injEq] at hr; subst hr
            obtain ⟨r', hf, hrel⟩ := fill_rel _ _ _ _ _ hp hzr hcs
            refine ⟨.agg r', run_build w t ps' r' ?_, VRel.agg' hrel⟩
            simp only [Program.built, hit, hut, hz1, placesOf_ok hpl]
            simpa using hf
          · cases hr
        · cases hr
      · rename_i n elem hd
        rw [hd] at hut
        split at hr
        · rename_i te hte
          obtain ⟨ie, hie, hue, _, hsze, -⟩ := tiOf_ok hte
          split at hr
          · rename_i cs hcs
            simp only [Option.some.injEq] at hr; subst hr
            obtain ⟨r', hf, hrel⟩ := fill_rel _ _ _ _ _ hp hzr hcs
            refine ⟨.agg r', run_build w t ps' r' ?_, VRel.agg' hrel⟩
            simp only [Program.built, hit, hut, hz1, hie]
            rw [← hsze]; exact hf
          · cases hr
        · cases hr
      · cases hr
    · cases hr
  · cases hr
theorem sameNow_rel {d : TypeDesc} {k k' q q' : Value} {b : Bool} (hk : VRel φ k k') (hq : VRel φ q q') (hs : Instr.sameNow d k q = some b) : Instr.sameNow d k' q' = some b := by
  unfold Instr.sameNow at hs
  split at hs
  · cases hk.int_inv; cases hq.int_inv; exact hs
  · cases hk.string_inv; cases hq.string_inv; exact hs
  · cases hk.bool_inv; cases hq.bool_inv; exact hs
  · cases hs
theorem look_ok {d : TypeDesc} {k k' : Value} (hk : VRel φ k k') : ∀ {es : List (Value × Value)} {es' : List MapEntry} (i : Nat) {r : Option Value}, L2 (fun (p : Value × Value) (e : MapEntry) => VRel φ p.1 e.key ∧ VRel φ p.2 e.val) es es' → look d k es = some r →
    (r = none ∧ Instr.findNow d k' es' i = some none) ∨ ∃ v j v', r = some v ∧ Instr.findNow d k' es' i = some (some (j, v')) ∧ VRel φ v v'
  | [], es', i, r, hl, hr => by
    cases hl.nil_left
    simp only [look, Option.some.injEq] at hr; subst hr
    exact .inl ⟨rfl, rfl⟩
  | (q, x) :: es, es', i, r, hl, hr => by
    obtain ⟨e, t, rfl, ⟨h1, h2⟩, h3⟩ := hl.cons_left
    simp only [look] at hr
    split at hr
    · rename_i hs
      simp only [Option.some.injEq] at hr; subst hr
      exact .inr ⟨x, i, e.val, rfl, by simp [Instr.findNow, sameNow_rel hk h1 hs], h2⟩
    · rename_i hs
      rcases look_ok hk (i + 1) h3 hr with ⟨a, b⟩ | ⟨v, j, v', a, b, c⟩
      · exact .inl ⟨a, by simp [Instr.findNow, sameNow_rel hk h1 hs, b]⟩
      · exact .inr ⟨v, j, v', a, by simp [Instr.findNow, sameNow_rel hk h1 hs, b], c⟩
    · cases hr
theorem run_checkKey' {kt : TypeId} {d : TypeDesc} (hd : P.underlying kt = some d) (hk : keyKind d = true) (e : Bool) (n : Nat) (k : Value) : (Instr.checkKey e (n + 1) kt k).run P w = .ok () w := by
  unfold Instr.checkKey
  simp only [Sem.run_bind, run_underlying hd, Result.andThen_ok]
  cases d <;> simp [keyKind] at hk <;> rfl
def lookTail (kt et : TypeId) (k' : Value) (ok : Bool) (es : Array MapEntry) : Sem Value := do
  Instr.checkKey es.isEmpty 10000 kt k'
  let (v, ok') ← match ← Instr.findKey kt k' es.toList with
    | some (_, v) => pure (v, true)
    | none => pure (← zeroValue et, false)
  pure (if ok then .tuple #[v, .bool ok'] else v)
theorem lookup_none {t kt et : TypeId} {k : Value} {ok : Bool} (hu : P.underlying t = some (.map kt et)) : (Instr.lookup t (.map none) k ok).run P w = (lookTail kt et k ok #[]).run P w := by
  unfold Instr.lookup lookTail
  simp only [Sem.run_bind, run_underlying hu, Result.andThen_ok, Sem.run_pure]
  rfl
theorem run_getObj' {b : Nat} {ents : Array MapEntry} {clock : Nat} (hb : w.heap[b]? = some (.map ents clock)) : (getObj b).run P w = .ok (.map ents clock) w := by
  simp [getObj, Sem.run, hb]
theorem run_setObj' {b : Nat} {ents : Array MapEntry} {clock : Nat} (o : Obj) (hb : w.heap[b]? = some (.map ents clock)) : (setObj b o).run P w = .ok () { w with heap := w.heap.setIfInBounds b o } := by
  simp [setObj, Sem.run, hb]
theorem run_findKey' {kt : TypeId} {d : TypeDesc} {k : Value} {l : List MapEntry} {a : Option (Nat × Value)} (hd : P.underlying kt = some d) (h : Instr.findNow d k l 0 = some a) : (Instr.findKey kt k l).run P w = .ok a w := by
  simp [Instr.findKey, run_underlying hd, h]
theorem lookup_some {t kt et : TypeId} {k : Value} {ok : Bool} {b : Nat} {ents : Array MapEntry} {clock : Nat} (hu : P.underlying t = some (.map kt et)) (hb : w.heap[b]? = some (.map ents clock)) :
    (Instr.lookup t (.map (some b)) k ok).run P w = (lookTail kt et k ok ents).run P w := by
  unfold Instr.lookup lookTail
  simp only [Sem.run_bind, run_underlying hu, Result.andThen_ok, Sem.run_pure, run_getObj' hb]
  rfl
theorem lookTail_ok {kt et : TypeId} {k' z : Value} {ok : Bool} {ents : Array MapEntry} {d : TypeDesc} {ie : TypeInfo} {r : Option Value} {v : Value} (huk : P.underlying kt = some d) (hkk : keyKind d = true)
    (hie : P.info? et = some ie) (hz1 : ie.zero = some z) (hz2 : flat z = true)
    (hf : (r = none ∧ Instr.findNow d k' ents.toList 0 = some none) ∨ ∃ v j v', r = some v ∧ Instr.findNow d k' ents.toList 0 = some (some (j, v')) ∧ VRel φ v v')
    (hv : (match r with
      | some v => (match ok with | true => Value.tuple #[v, .bool true] | false => v)
      | none => (match ok with | true => .tuple #[z, .bool false] | false => z)) = v) :
    ∃ v', (lookTail kt et k' ok ents).run P w = .ok v' w ∧ VRel φ v v' := by
  have hck := run_checkKey' (w := w) huk hkk ents.isEmpty 9999 k'
  unfold lookTail
  simp only [Sem.run_bind]
  rw [show (10000 : Nat) = 9999 + 1 from rfl, hck]
  simp only [Result.andThen_ok]
  rcases hf with ⟨rfl, hf⟩ | ⟨x, j, x', rfl, hf, hx⟩
  · rw [run_findKey' huk hf]
    subst hv
    simp only [Result.andThen_ok, Sem.run_bind, run_zeroValue' hie hz1, Sem.run_pure]
    cases ok with
    | true => exact ⟨_, rfl, VRel.tuple' (L2.cons (flat_rel hz2) (L2.cons (.bool _) L2.nil))⟩
    | false => exact ⟨_, rfl, flat_rel hz2⟩
  · rw [run_findKey' huk hf]
    subst hv
    simp only [Result.andThen_ok, Sem.run_bind, Sem.run_pure]
    cases ok with
    | true => exact ⟨_, rfl, VRel.tuple' (L2.cons hx (L2.cons (.bool _) L2.nil))⟩
    | false => exact ⟨_, rfl, hx⟩
theorem lookupV_ok (H : HRel B0 w0 φ h w) {t : TypeId} {m m' k k' v : Value} {ok : Bool} (hm : VRel φ m m') (hk : VRel φ k k') (hr : lookupV P h t m k ok = some v) :
    ∃ v', (Instr.lookup t m' k' ok).run P w = .ok v' w ∧ VRel φ v v' := by
  unfold lookupV at hr
  split at hr
  · rename_i ti ht
    obtain ⟨it, hit, hut, -⟩ := tiOf_ok ht
    split at hr
    · rename_i kt et hd
      rw [hd] at hut
      split at hr
      · rename_i tk te htk hte
        obtain ⟨ik, hik, huk, -⟩ := tiOf_ok htk
        obtain ⟨ie, hie, hue, _, _, _, hz⟩ := tiOf_ok hte
        split at hr
        · rename_i z hkk hzz
          obtain ⟨hz1, hz2, hz3⟩ := hz z hzz
          simp only at hr
          split at hr
          · rename_i x hx
            simp only [Option.some.injEq] at hr
            split at hx
            · simp at hx
            · obtain ⟨b, σ, κ, hp, rfl⟩ := hm.map_inv
              split at hx
              · rename_i es ho
                obtain ⟨ents, clock, hw, hl, -⟩ := H.setMap ho hp
                rw [lookup_some hut hw]
                exact lookTail_ok (r := some x) huk hkk hie hz1 hz2 (look_ok hk 0 hl hx) hr
              · cases hx
            · cases hx
          · rename_i hx
            simp only [Option.some.injEq] at hr
            split at hx
            · cases hm.mapN_inv
              rw [lookup_none hut]
              exact lookTail_ok (r := none) huk hkk hie hz1 hz2 (.inl ⟨rfl, rfl⟩) hr
            · obtain ⟨b, σ, κ, hp, rfl⟩ := hm.map_inv
              split at hx
              · rename_i es ho
                obtain ⟨ents, clock, hw, hl, -⟩ := H.setMap ho hp
                rw [lookup_some hut hw]
                exact lookTail_ok (r := none) huk hkk hie hz1 hz2 (look_ok hk 0 hl hx) hr
              · cases hx
            · cases hx
          · cases hr
        · cases hr
      · cases hr
    · cases hr
  · cases hr
theorem lenB_ok (H : HRel B0 w0 φ h w) {ts : Array TypeId} {ty : TypeId} {args args' : List Value} {v : Value} (ha : LRel φ args args') (hr : lenB P h ts args = some v) :
    (Builtin.len_ ts ty ⟨args'⟩).run P w = .ok v w ∧ VRel φ v v := by
  unfold lenB at hr
  split at hr
  · rename_i t x hts
    obtain ⟨x', t', rfl, hx, ht'⟩ := ha.cons_left
    cases ht'.nil_left
    have hts0 : ts[0]? = some t := by rw [← Array.getElem?_toList, hts]; rfl
    split at hr
    · rename_i ti ht
      obtain ⟨it, hit, hut, -⟩ := tiOf_ok ht
      have h0 : (#[x'] : Array Value)[0]? = some x' := rfl
      split at hr
      · rename_i s hd
        cases hx.string_inv
        rw [hd] at hut
        simp only [Option.some.injEq] at hr; subst hr
        exact ⟨by simp [Builtin.len_, hts0, run_underlying hut], .int _ _⟩
      · rename_i n e hd
        rw [hd] at hut
        simp only [Option.some.injEq] at hr; subst hr
        exact ⟨by simp [Builtin.len_, hts0, run_underlying hut], .int _ _⟩
      · rename_i arr hd
        rw [hd] at hut
        split at hr
        · rename_i ta hta
          obtain ⟨ia, hia, hua, -⟩ := tiOf_ok hta
          split at hr
          · rename_i n e hda
            rw [hda] at hua
            simp only [Option.some.injEq] at hr; subst hr
            exact ⟨by simp [Builtin.len_, hts0, run_underlying hut, run_underlying hua], .int _ _⟩
          · cases hr
        · cases hr
      · rename_i e a n c hd
        rw [hd] at hut
        simp only [Option.some.injEq] at hr; subst hr
        cases hx with
        | sliceN => exact ⟨by simp [Builtin.len_, hts0, run_underlying hut], .int _ _⟩
        | slice => exact ⟨by simp [Builtin.len_, hts0, run_underlying hut], .int _ _⟩
      · rename_i k e hd
        cases hx.mapN_inv
        rw [hd] at hut
        simp only [Option.some.injEq] at hr; subst hr
        exact ⟨by simp [Builtin.len_, hts0, run_underlying hut], .int _ _⟩
      · rename_i k e r hd
        rw [hd] at hut
        obtain ⟨b, σ, κ, hp, rfl⟩ := hx.map_inv
        split at hr
        · rename_i es ho
          obtain ⟨ents, clock, hw, hl, -⟩ := H.setMap ho hp
          simp only [Option.some.injEq] at hr; subst hr
          have hsz : ents.size = es.length := by have := hl.1; simpa using this.symm
          exact ⟨by simp [Builtin.len_, hts0, run_underlying hut, run_getObj' hw, hsz], .int _ _⟩
        · cases hr
      · cases hr
    · cases hr
  · cases hr
theorem capB_ok (H : HRel B0 w0 φ h w) {ts : Array TypeId} {ty : TypeId} {args args' : List Value} {v : Value} (ha : LRel φ args args') (hr : capB P h ts args = some v) :
    (Builtin.cap_ ts ty ⟨args'⟩).run P w = .ok v w ∧ VRel φ v v := by
  unfold capB at hr
  split at hr
  · rename_i t x hts
    obtain ⟨x', t', rfl, hx, ht'⟩ := ha.cons_left
    cases ht'.nil_left
    have hts0 : ts[0]? = some t := by rw [← Array.getElem?_toList, hts]; rfl
    split at hr
    · rename_i ti ht
      obtain ⟨it, hit, hut, -⟩ := tiOf_ok ht
      split at hr
      · rename_i e n c hd
        cases hx.sliceN_inv
        rw [hd] at hut
        simp only [Option.some.injEq] at hr; subst hr
        exact ⟨by simp [Builtin.cap_, hts0, run_underlying hut], .int _ _⟩
      · rename_i e i o s n c hd
        obtain ⟨_, b, σ, κ, a', hp, hσ, ho, rfl⟩ := hx.slice_inv
        rw [hd] at hut
        split at hr
        · rename_i cs m ro hob
          obtain ⟨b2, σ2, κ2, hp2, hR⟩ := H.obj i _ hob
          rw [hp] at hp2; cases hp2
          obtain ⟨rfl, rfl, -⟩ := hR
          simp only [Option.some.injEq] at hr; subst hr
          exact ⟨by simp [Builtin.cap_, hts0, run_underlying hut], .int _ _⟩
        · cases hr
      · cases hr
    · cases hr
  · cases hr
theorem minL_ok : ∀ {l l' : List Value} {x x' v : Value}, VRel φ x x' → LRel φ l l' → minL x l = some v → ∃ v', (l'.foldlM Builtin.min2 x').run P w = .ok v' w ∧ VRel φ v v'
  | [], l', x, x', v, hx, hl, hr => by
    cases hl.nil_left
    simp only [minL, Option.some.injEq] at hr; subst hr
    exact ⟨x', rfl, hx⟩
  | y :: l, l', x, x', v, hx, hl, hr => by
    obtain ⟨y', t, rfl, hy, ht⟩ := hl.cons_left
    unfold minL at hr
    split at hr
    · rename_i heq; cases heq
    · rename_i k a k2 b l2 heq
      simp only [List.cons.injEq] at heq
      obtain ⟨rfl, rfl⟩ := heq
      cases hx.int_inv; cases hy.int_inv
      obtain ⟨v', h1, h2⟩ := minL_ok (.int _ _) ht hr
      refine ⟨v', ?_, h2⟩
      simp only [List.foldlM_cons, Sem.run_bind, Builtin.min2, Sem.run_pure, Result.andThen_ok]
      exact h1
    · rename_i a b l2 heq
      simp only [List.cons.injEq] at heq
      obtain ⟨rfl, rfl⟩ := heq
      cases hx.string_inv; cases hy.string_inv
      obtain ⟨v', h1, h2⟩ := minL_ok (.string _) ht hr
      refine ⟨v', ?_, h2⟩
      simp only [List.foldlM_cons, Sem.run_bind, Builtin.min2, Op.stringOp, asBool, Sem.run_pure, Result.andThen_ok, ByteArray.toList_eq]
      exact h1
    · cases hr
theorem maxL_ok : ∀ {l l' : List Value} {x x' v : Value}, VRel φ x x' → LRel φ l l' → maxL x l = some v → ∃ v', (l'.foldlM Builtin.max2 x').run P w = .ok v' w ∧ VRel φ v v'
  | [], l', x, x', v, hx, hl, hr => by
    cases hl.nil_left
    simp only [maxL, Option.some.injEq] at hr; subst hr
    exact ⟨x', rfl, hx⟩
  | y :: l, l', x, x', v, hx, hl, hr => by
    obtain ⟨y', t, rfl, hy, ht⟩ := hl.cons_left
    unfold maxL at hr
    split at hr
    · rename_i heq; cases heq
    · rename_i k a k2 b l2 heq
      simp only [List.cons.injEq] at heq
      obtain ⟨rfl, rfl⟩ := heq
      cases hx.int_inv; cases hy.int_inv
      obtain ⟨v', h1, h2⟩ := maxL_ok (.int _ _) ht hr
      refine ⟨v', ?_, h2⟩
      simp only [List.foldlM_cons, Sem.run_bind, Builtin.max2, Sem.run_pure, Result.andThen_ok]
      exact h1
    · rename_i a b l2 heq
      simp only [List.cons.injEq] at heq
      obtain ⟨rfl, rfl⟩ := heq
      cases hx.string_inv; cases hy.string_inv
      obtain ⟨v', h1, h2⟩ := maxL_ok (.string _) ht hr
      refine ⟨v', ?_, h2⟩
      simp only [List.foldlM_cons, Sem.run_bind, Builtin.max2, Op.stringOp, asBool, Sem.run_pure, Result.andThen_ok, ByteArray.toList_eq]
      exact h1
    · cases hr
theorem sdata_none (ts : Array TypeId) (ty : TypeId) (n c : Nat) : Builtin.unsafeSliceData_ ts ty #[.slice none n c] = pure (.pointer none) := rfl
theorem sdata_some (ts : Array TypeId) (ty : TypeId) (a : Addr) (n c : Nat) (hc : c ≠ 0) : (Builtin.unsafeSliceData_ ts ty #[.slice (some a) n c]).run P w = .ok (.pointer (some a)) w := by
  have e : Builtin.unsafeSliceData_ ts ty #[.slice (some a) n c] = (if c ≠ 0 then pure (.pointer (some a)) else do
    if (← viewAt a.block).isSome then pure (.pointer (some a))
    else pure (.pointer (some ⟨← newObj (.view a (← elemOf ty)), 0, none⟩))) := rfl
  rw [e, if_pos hc]
  rfl
theorem builtinQ_ok (H : HRel B0 w0 φ h w) {b : Builtin} {ts : Array TypeId} {ty : TypeId} {cs : Array Bool} {args args' : List Value} {v : Value} (ha : LRel φ args args') (hr : builtinQ P h b ts args = some v) :
    ∃ v', (builtin b ts ty cs ⟨args'⟩).run P w = .ok (.value v') w ∧ VRel φ v v' := by
  unfold builtinQ at hr
  split at hr
  · obtain ⟨h1, h2⟩ := lenB_ok (P := P) (ty := ty) H ha hr
    exact ⟨v, by simp only [builtin, Sem.run_bind, h1, Result.andThen_ok, Sem.run_pure], h2⟩
  · obtain ⟨h1, h2⟩ := capB_ok (P := P) (ty := ty) H ha hr
    exact ⟨v, by simp only [builtin, Sem.run_bind, h1, Result.andThen_ok, Sem.run_pure], h2⟩
  · split at hr
    · obtain ⟨x', t, rfl, hx, ht⟩ := ha.cons_left
      obtain ⟨v', h1, h2⟩ := minL_ok (P := P) (w := w) hx ht hr
      exact ⟨v', by simp only [builtin, Builtin.min_, Sem.run_bind, h1, Result.andThen_ok, Sem.run_pure], h2⟩
    · cases hr
  · split at hr
    · obtain ⟨x', t, rfl, hx, ht⟩ := ha.cons_left
      obtain ⟨v', h1, h2⟩ := maxL_ok (P := P) (w := w) hx ht hr
      exact ⟨v', by simp only [builtin, Builtin.max_, Sem.run_bind, h1, Result.andThen_ok, Sem.run_pure], h2⟩
    · cases hr
  · unfold sdataB at hr
    split at hr
    · simp only [Option.some.injEq] at hr; subst hr
      obtain ⟨x', t, rfl, hx, ht⟩ := ha.cons_left
      cases ht.nil_left
      cases hx.sliceN_inv
      exact ⟨_, by simp only [builtin, sdata_none, Sem.run_bind, Result.andThen_ok, Sem.run_pure], .ptrN⟩
    · rename_i i off len c
      split at hr
      · rename_i hc
        simp only [Option.some.injEq] at hr; subst hr
        obtain ⟨x', t, rfl, hx, ht⟩ := ha.cons_left
        cases ht.nil_left
        obtain ⟨_, b, σ, κ, a', hp, hσ, ho, rfl⟩ := hx.slice_inv
        have hc0 : c ≠ 0 := fun e => by subst e; cases hc
        have ha' : a' = ⟨b, off - σ, none⟩ := by
          rcases ho with x | ⟨_, x⟩
          · exact x
          · omega
        subst ha'
        have hcc : c + κ ≠ 0 := by omega
        exact ⟨_, by simp only [builtin, Sem.run_bind, sdata_some _ _ _ _ _ hcc, Result.andThen_ok, Sem.run_pure], .ptr hp hσ⟩
      · cases hr
    · cases hr
  · cases hr
theorem nilCheckV_shape {x x' v : Value} (hx : VRel φ x x') (hr : nilCheckV x = some v) : v = x ∧ (x' ≠ .pointer none ∧ x' ≠ .nilIface ∧ x' ≠ .nilFunc ∧ ∀ n f c, x' ≠ .func (.method n) f c) := by
  unfold nilCheckV at hr
  split at hr
  · cases hr
  · cases hr
  · cases hr
  · cases hr
  · rename_i n1 n2 n3 n4
    simp only [Option.some.injEq] at hr; subst hr
    refine ⟨rfl, ?_, ?_, ?_, ?_⟩
    · rintro rfl; cases hx; exact n1 rfl
    · rintro rfl; cases hx; exact n2 rfl
    · rintro rfl; cases hx; exact n3 rfl
    · rintro n f c rfl; cases hx; exact n4 _ _ _ rfl
def Rev (φ : Map) (F : Fr) (ρ : Operand → Value) (l : List Operand) : Prop := ∀ x, x ∈ l → VRel φ (F.ev x) (ρ x)
theorem Rev.list {F : Fr} {ρ : Operand → Value} {l : List Operand} (hr : Rev φ F ρ l) {m : List Operand} (hm : ∀ x, x ∈ m → x ∈ l) : LRel φ (m.map F.ev) (m.map ρ) :=
  L2.self_map fun a ha => hr a (hm a ha)
theorem Rev.vals {F : Fr} {ρ : Operand → Value} {l : List Operand} (hr : Rev φ F ρ l) {m : Array Operand} (hm : ∀ x, x ∈ m.toList → x ∈ l) : LRel φ (vals F m) (m.map ρ).toList := by
  rw [Array.toList_map]; exact hr.list hm
theorem Rev.pairs {F : Fr} {ρ : Operand → Value} {l : List Operand} (hr : Rev φ F ρ l) {m : List (Nat × Operand)} (hm : ∀ p, p ∈ m → p.2 ∈ l) :
    L2 (fun (p q : Nat × Value) => p.1 = q.1 ∧ VRel φ p.2 q.2) (m.map fun p => (p.1, F.ev p.2)) (m.map fun p => (p.1, ρ p.2)) :=
  L2.self_map fun a ha => ⟨rfl, hr a.2 (hm a ha)⟩
theorem Rev.opt {F : Fr} {ρ : Operand → Value} {l : List Operand} (hr : Rev φ F ρ l) {x : Option Operand} (hm : ∀ y, x = some y → y ∈ l) : ORelV φ (x.map F.ev) (x.map ρ) := by
  cases x with
  | none => trivial
  | some y => exact hr y (hm y rfl)
theorem opQ_ok (H : HRel B0 w0 φ h w) {F : Fr} {ρ : Operand → Value} {o : Oper} {v : Value} (hv : Rev φ F ρ o.op.operands.toList) (hr : opQ P F h o.op = some v) :
    ∃ v', (execOp ρ o).run P w = .ok (.value v') w ∧ VRel φ v v' := by
  obtain ⟨dst, op, type, pos, after, guard⟩ := o
  simp only at hv hr
  have Q : ∀ {s : Sem Value} {v'}, s.run P w = .ok v' w → (do pure (Next.value (← s)) : Sem Next).run P w = .ok (.value v') w := fun hs => by
    simp only [Sem.run_bind, hs, Result.andThen_ok, Sem.run_pure]
  unfold opQ at hr
  split at hr
  · simp only [Option.some.injEq] at hr; subst hr
    exact ⟨_, rfl, hv _ (by simp [Op.operands])⟩
  · simp only [Option.some.injEq] at hr; subst hr
    exact ⟨_, rfl, hv _ (by simp [Op.operands])⟩
  · rename_i c a b
    have hc := hv c (by simp [Op.operands])
    split at hr
    · rename_i he
      rw [he] at hc
      simp only [Option.some.injEq] at hr; subst hr
      exact ⟨ρ a, by simp [execOp, hc.bool_inv, asBool], hv a (by simp [Op.operands])⟩
    · rename_i he
      rw [he] at hc
      simp only [Option.some.injEq] at hr; subst hr
      exact ⟨ρ b, by simp [execOp, hc.bool_inv, asBool], hv b (by simp [Op.operands])⟩
    · cases hr
  · rename_i t parts
    obtain ⟨v', h1, h2⟩ := buildV_ok (P := P) (w := w) (ps' := parts.map fun (i, x) => (i, ρ x)) (by
      rw [Array.toList_map]
      exact hv.pairs (fun p hp => by simp only [Op.operands]; simp; exact ⟨p.1, by simpa using hp⟩)) hr
    exact ⟨v', Q h1, h2⟩
  · rename_i t a
    obtain ⟨v', h1, h2⟩ := loadV_ok (P := P) H (hv a (by simp [Op.operands])) hr
    exact ⟨v', Q h1, h2⟩
  · rename_i x
    obtain ⟨rfl, n1, n2, n3, n4⟩ := nilCheckV_shape (hv x (by simp [Op.operands])) hr
    refine ⟨ρ x, ?_, hv x (by simp [Op.operands])⟩
    have he : execOp ρ ⟨dst, .nilCheck x, type, pos, after, guard⟩ = pure (.value (ρ x)) := by
      simp only [execOp]
    rw [he]; rfl
  · rename_i op t x y yt
    obtain ⟨h1, h2⟩ := binV_ok (P := P) (w := w) (hv x (by simp [Op.operands])) (hv y (by simp [Op.operands])) hr
    exact ⟨v, Q h1, h2⟩
  · rename_i op t x
    obtain ⟨h1, h2⟩ := unV_ok (P := P) (w := w) (hv x (by simp [Op.operands])) hr
    exact ⟨v, Q h1, h2⟩
  · rename_i s d x
    obtain ⟨h1, h2⟩ := convQ_ok (P := P) H (hv x (by simp [Op.operands])) hr
    exact ⟨v, Q h1, h2⟩
  · rename_i t x
    split at hr
    · rename_i ti ht
      obtain ⟨it, hit, hut, -⟩ := tiOf_ok ht
      have hx := hv x (by simp [Op.operands])
      split at hr
      · cases hr
      · rename_i hni
        simp only [Option.some.injEq] at hr; subst hr
        refine ⟨.iface t (ρ x), Q ?_, .iface t hx⟩
        simp only [Instr.makeInterface, Sem.run_bind, run_underlying hut, Result.andThen_ok]
        rfl
    · cases hr
  · rename_i fn first captured
    simp only [Option.some.injEq] at hr; subst hr
    refine ⟨.func fn (first.map ρ) (captured.map ρ), Q rfl, ?_⟩
    exact VRel.func' fn (hv.vals (fun x hx => by simp [Op.operands] at hx ⊢; exact .inl hx)) (hv.vals (fun x hx => by simp [Op.operands] at hx ⊢; exact .inr hx))
  · rename_i t x lo hi
    obtain ⟨v', h1, h2⟩ := sliceQ_ok (P := P) H (hv x (by simp [Op.operands])) (hv.opt (x := lo) (fun y hy => by subst hy; simp [Op.operands])) (hv.opt (x := hi) (fun y hy => by subst hy; simp [Op.operands])) hr
    exact ⟨v', Q h1, h2⟩
  · rename_i t x f
    obtain ⟨v', h1, h2⟩ := fieldAddrV_ok (P := P) (w := w) (hv x (by simp [Op.operands])) hr
    exact ⟨v', Q h1, h2⟩
  · rename_i t x f
    obtain ⟨v', h1, h2⟩ := fieldV_ok (P := P) (w := w) (hv x (by simp [Op.operands])) hr
    exact ⟨v', Q h1, h2⟩
  · rename_i t x i
    obtain ⟨v', h1, h2⟩ := indexAddrV_ok (P := P) (w := w) (hv x (by simp [Op.operands])) (hv i (by simp [Op.operands])) hr
    exact ⟨v', Q h1, h2⟩
  · rename_i t x i
    obtain ⟨v', h1, h2⟩ := indexV_ok (P := P) (w := w) (hv x (by simp [Op.operands])) (hv i (by simp [Op.operands])) hr
    exact ⟨v', Q h1, h2⟩
  · rename_i t m k ok
    obtain ⟨v', h1, h2⟩ := lookupV_ok (P := P) H (hv m (by simp [Op.operands])) (hv k (by simp [Op.operands])) hr
    exact ⟨v', Q h1, h2⟩
  · rename_i x i
    have hx := hv x (by simp [Op.operands])
    split at hr
    · rename_i vs he
      rw [he] at hx
      obtain ⟨cs', hc, hl⟩ := hx.tuple_inv
      obtain ⟨v', hv', hr'⟩ := hl.get (i := i) (v := v) (by simpa using hr)
      refine ⟨v', Q ?_, hr'⟩
      have hv2 : cs'[i]? = some v' := by simpa using hv'
      simp [Instr.extract, hc, hv2]
    · cases hr
  · rename_i b args ats
    obtain ⟨v', h1, h2⟩ := builtinQ_ok (P := P) (ty := type) (cs := args.map fun | .const _ => true | _ => false) H (hv.vals (m := args) (fun x hx => by simpa [Op.operands, Call.operands] using hx)) hr
    refine ⟨v', ?_, h2⟩
    simp only [execOp, resolve, Sem.run_bind, Sem.run_pure, Result.andThen_ok, invoke]
    exact h1
  · cases hr
end Go.Abs
end
