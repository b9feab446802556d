/- New blocks, rows of stores, maps: what they do to the relation of the heaps. -/
import Derived.Test.YtgdkekdedgkglaaBkHeap
import Derived.Laws.IdiomCopy
open Go.RowKit
namespace Go.Abs
variable {B0 : Nat} {w0 : World} {φ : Map} {h h' : AW} {w : World} {P : Program}

theorem HRel.wrL (hp0 : ∀ i, h.objs.get? i = h.objs.get? i) {i b σ κ : Nat} (hp : φ i = some (b, σ, κ)) : ∀ {l l' : List Value} {off k : Nat} {h h' : AW} {w : World}, HRel B0 w0 φ h w → h.wrL i off l = some h' → LRel φ l l' →
    ∀ o, (l ≠ [] → off - σ = o + k ∧ σ ≤ off) → ∃ w', (storeCells ⟨b, o, none⟩ l' k).run P w = .ok () w' ∧ HRel B0 w0 φ h' w' := by
  intro l
  induction l with
  | nil =>
    intro l' off k h h' w H hw hl o _
    have := hl.nil_left; subst this
    simp only [AW.wrL, Option.some.injEq] at hw; subst hw
    exact ⟨w, rfl, H⟩
  | cons v l ih =>
    intro l' off k h h' w H hw hl o ho
    obtain ⟨v', t', rfl, hv, ht⟩ := hl.cons_left
    simp only [AW.wrL] at hw
    split at hw
    · rename_i h1 hw1
      obtain ⟨hs, ⟨u, hu⟩, hf, hone, H1⟩ := H.wr hw1 hv hp
      obtain ⟨ho1, _⟩ := ho (by simp)
      rw [ho1] at hu hf H1
      obtain ⟨w', hr, H'⟩ := ih (k := k + 1) H1 hw ht o (fun _ => ⟨by omega, by omega⟩)
      refine ⟨w', ?_, H'⟩
      have hst : (store ⟨b, o + k, none⟩ v').run P w = .ok () (w.setCell ⟨b, o + k, none⟩ v') := by
        rw [run_store P w _ v' .plain hone]; simp [hu, hf]
      simp only [storeCells, Addr.add_lit, Sem.run_bind, hst, Result.andThen_ok]
      exact hr
    · cases hw

/-- A new object, laid into a new block. -/
theorem HRel.new (H : HRel B0 w0 φ h w) (o : AObj) (x : Obj) (σ κ nx : Nat) (fams : T Fam) (hnx : h.next < nx)
    (hf : ∀ f, f < h.next → fams.get? f = h.fams.get? f)
    (ho : ORel (φ.add h.next (w.heap.size, σ, κ)) fams B0 (w.alloc x) w.heap.size σ κ o)
    (hfam : ∀ f g lo hi sz cs, o = .row f g lo hi sz cs → f < nx ∧ ∃ fm, fams.get? f = some fm ∧ g ≤ fm.gen) :
    HRel B0 w0 (φ.add h.next (w.heap.size, σ, κ)) { next := nx, objs := h.objs.set h.next o, fams := fams } (w.alloc x) ∧ φ.le (φ.add h.next (w.heap.size, σ, κ)) := by
  have hle : φ.le (φ.add h.next (w.heap.size, σ, κ)) := Map.le_add (H.free (Nat.le_refl _))
  have hlive : ∀ i o, h.objs.get? i = some o → live fams o → live h.fams o := by
    intro i o hi hl
    cases o with
    | var a n ro => exact hl
    | map es => trivial
    | row f g lo hi sz cs =>
      obtain ⟨fm, h1, h2⟩ := hl
      rw [hf f (H.fam i _ _ _ _ _ _ hi).1] at h1
      exact ⟨fm, h1, h2⟩
  have hnb : ∀ i b σ κ, φ i = some (b, σ, κ) → b ≠ w.heap.size := fun i b σ κ hp => Nat.ne_of_lt (H.lt hp)
  refine ⟨⟨H.base, H.below.alloc (Nat.le_trans H.base H.below.size) _, ?_, ?_, ?_, ?_⟩, hle⟩
  · intro i y hy
    unfold Map.add at hy
    split at hy
    · rename_i e; subst e; simp at hy; subst hy; exact ⟨hnx, by simp⟩
    · have := H.dom i y hy; exact ⟨by show i < nx; omega, by simp; omega⟩
  · intro i oi hi
    simp only [T.get?_set] at hi
    by_cases e : i = h.next
    · subst e
      simp only [if_true, Option.some.injEq] at hi
      subst hi
      exact ⟨_, _, _, Map.add_same _ _ _, ho⟩
    · rw [if_neg e] at hi
      obtain ⟨b, σ2, κ2, hp, hR⟩ := H.obj i oi hi
      refine ⟨b, σ2, κ2, hle _ _ hp, ?_⟩
      have hR2 := (hR.mono hle).same (w' := w.alloc x) (by simp only [World.alloc, Array.getElem?_push]; rw [if_neg (Nat.ne_of_lt (H.lt hp))])
      cases oi with
      | var a n ro => exact hR2
      | map es => exact hR2
      | row f g lo hi2 sz cs =>
        intro fm h1 h2
        rw [hf f (H.fam i _ _ _ _ _ _ hi).1] at h1
        exact hR2 fm h1 h2
  · intro i f g lo hi sz cs hi'
    simp only [T.get?_set] at hi'
    by_cases e : i = h.next
    · subst e
      simp only [if_true, Option.some.injEq] at hi'
      exact hfam _ _ _ _ _ _ hi'
    · rw [if_neg e] at hi'
      obtain ⟨h1, fm, h2, h3⟩ := H.fam i _ _ _ _ _ _ hi'
      exact ⟨by show f < nx; omega, fm, by rw [hf f h1]; exact h2, h3⟩
  · intro i j oi oj b σ1 κ1 σ2 κ2 hij hi hj li lj pi pj
    simp only [T.get?_set] at hi hj
    by_cases ei : i = h.next
    · subst ei
      rw [Map.add_same] at pi
      simp only [Option.some.injEq, Prod.mk.injEq] at pi
      rw [Map.add_ne _ _ (Ne.symm hij)] at pj
      exact absurd pi.1.symm (hnb j b σ2 κ2 pj)
    · rw [if_neg ei] at hi
      rw [Map.add_ne _ _ ei] at pi
      by_cases ej : j = h.next
      · subst ej
        rw [Map.add_same] at pj
        simp only [Option.some.injEq, Prod.mk.injEq] at pj
        exact absurd pj.1.symm (hnb i b σ1 κ1 pi)
      · rw [if_neg ej] at hj
        rw [Map.add_ne _ _ ej] at pj
        exact H.sep i j oi oj b σ1 κ1 σ2 κ2 hij hi hj (hlive i oi hi li) (hlive j oj hj lj) pi pj

theorem cell_new (w : World) (c : Array Value) (e : TypeId) (k : Nat) : (w.alloc (.cells c e)).cell? ⟨w.heap.size, k, none⟩ = c[k]? := World.cell?_alloc_new w c e k

/-- A new variable. -/
theorem HRel.newVar (H : HRel B0 w0 φ h w) {cells cells' : List Value} {i : Nat} (hn : h.newVar cells = some (i, h')) (hl : LRel φ cells cells') (e : TypeId) :
    ∃ ψ, φ.le ψ ∧ ψ i = some (w.heap.size, 0, 0) ∧ HRel B0 w0 ψ h' (w.alloc (.cells ⟨cells'⟩ e)) := by
  unfold AW.newVar at hn
  split at hn
  · rename_i h1
    simp only [Option.some.injEq, Prod.mk.injEq] at hn
    obtain ⟨rfl, rfl⟩ := hn
    have hle : φ.le (φ.add h.next (w.heap.size, 0, 0)) := Map.le_add (H.free (Nat.le_refl _))
    have := H.new (.var (T.ofList cells) cells.length false) (.cells ⟨cells'⟩ e) 0 0 (h.next + 1) h.fams (Nat.lt_succ_self _) (fun _ _ => rfl) (by
      refine ⟨rfl, rfl, ?_, fun _ => ⟨Nat.le_trans H.base H.below.size, fun k hk => ⟨?_, World.frozen?_alloc_new _ _ _ _⟩⟩, fun e => by cases e⟩
      · intro k v hk hv
        rw [T.get?_ofList] at hv
        obtain ⟨v', hv', hr⟩ := hl.get hv
        exact ⟨v', by rw [cell_new]; simpa using hv', hr.mono hle⟩
      · obtain ⟨v', hv', _⟩ := hl.get (List.getElem?_eq_getElem hk)
        exact ⟨v', by rw [cell_new]; simpa using hv'⟩) (fun f g lo hi sz cs e => by cases e)
    exact ⟨_, this.2, Map.add_same _ _ _, this.1⟩
  · cases hn

/-- A new row of unknown capacity. -/
theorem HRel.newRow (H : HRel B0 w0 φ h w) {sz : Nat} {cells cells' rest : List Value} {i : Nat} (hn : h.newRow sz cells = some (i, h')) (hl : LRel φ cells cells') (e : TypeId) (κ : Nat) (hr : rest.length = κ * sz) :
    ∃ ψ, φ.le ψ ∧ ψ i = some (w.heap.size, 0, κ) ∧ HRel B0 w0 ψ h' (w.alloc (.cells ⟨cells' ++ rest⟩ e)) := by
  unfold AW.newRow at hn
  split at hn
  · rename_i h1
    simp only [Option.some.injEq, Prod.mk.injEq] at hn
    obtain ⟨rfl, rfl⟩ := hn
    have hle : φ.le (φ.add h.next (w.heap.size, 0, κ)) := Map.le_add (H.free (Nat.le_refl _))
    have hlen := hl.1
    have := H.new (.row (h.next + 1) 0 0 cells.length sz (T.ofList cells)) (.cells ⟨cells' ++ rest⟩ e) 0 κ (h.next + 2) (h.fams.set (h.next + 1) ⟨0, cells.length, 0⟩) (by omega) (fun f hf => T.get?_set_ne _ _ (by omega)) (by
      intro fm hf _
      rw [T.get?_set_same] at hf
      simp only [Option.some.injEq] at hf
      subst hf
      refine ⟨Nat.le_trans H.base H.below.size, Nat.le_refl _, Nat.le_refl _, ?_, ?_, fun k _ _ _ => World.frozen?_alloc_new _ _ _ _⟩
      · intro k v _ hk hv
        rw [T.get?_ofList] at hv
        obtain ⟨v', hv', hr⟩ := hl.get hv
        refine ⟨v', ?_, hr.mono hle⟩
        rw [cell_new, Nat.sub_zero]
        simp only [List.getElem?_toArray]
        rw [List.getElem?_append_left (by omega)]; exact hv'
      · intro k _ hk
        refine ⟨(cells' ++ rest)[k]'(by simp; omega), ?_⟩
        rw [cell_new, Nat.sub_zero]
        simp) (fun f g lo hi sz cs e => by cases e; exact ⟨Nat.lt_succ_self _, _, T.get?_set_same _ _ _, Nat.le_refl _⟩)
    exact ⟨_, this.2, Map.add_same _ _ _, this.1⟩
  · cases hn

/-- A new map. -/
theorem HRel.newMap (H : HRel B0 w0 φ h w) : ∃ ψ, φ.le ψ ∧ ψ h.newMap.1 = some (w.heap.size, 0, 0) ∧ HRel B0 w0 ψ h.newMap.2 (w.alloc (.map #[] 0)) := by
  have := H.new (.map []) (.map #[] 0) 0 0 (h.next + 1) h.fams (Nat.lt_succ_self _) (fun _ _ => rfl)
    ⟨rfl, rfl, Nat.le_trans H.base H.below.size, #[], 0, heap_alloc_new w _, L2.nil⟩ (fun f g lo hi sz cs e => by cases e)
  exact ⟨_, this.2, Map.add_same _ _ _, this.1⟩

/-- A block that stands for no cells at all. -/
theorem HRel.newNone (H : HRel B0 w0 φ h w) {b : Nat} (σ : Nat) (hb : b < w.heap.size) :
    ∃ ψ, φ.le ψ ∧ ψ h.next = some (b, 0, 0) ∧ HRel B0 w0 ψ { h with next := h.next + 1, objs := h.objs.set h.next (.var .nil 0 true) } w := by
  have hle : φ.le (φ.add h.next (b, 0, 0)) := Map.le_add (H.free (Nat.le_refl _))
  refine ⟨φ.add h.next (b, 0, 0), hle, Map.add_same _ _ _, H.base, H.below, ?_, ?_, ?_, ?_⟩
  · intro i y hy
    unfold Map.add at hy
    split at hy
    · rename_i e; subst e; simp at hy; subst hy; exact ⟨Nat.lt_succ_self _, hb⟩
    · have := H.dom i y hy; exact ⟨Nat.lt_succ_of_lt this.1, this.2⟩
  · intro i oi hi
    simp only [T.get?_set] at hi
    by_cases e : i = h.next
    · subst e
      simp only [if_true, Option.some.injEq] at hi
      subst hi
      exact ⟨_, _, _, Map.add_same _ _ _, rfl, rfl, fun k v hk => (by omega), fun e => (by cases e), fun _ => .inr rfl⟩
    · rw [if_neg e] at hi
      obtain ⟨b2, σ2, κ2, hp, hR⟩ := H.obj i oi hi
      exact ⟨b2, σ2, κ2, hle _ _ hp, hR.mono hle⟩
  · intro i f g lo hi sz cs hi'
    simp only [T.get?_set] at hi'
    split at hi'
    · cases hi'
    · obtain ⟨h1, h2⟩ := H.fam i _ _ _ _ _ _ hi'; exact ⟨Nat.lt_succ_of_lt h1, h2⟩
  · intro i j oi oj b2 σ1 κ1 σ2 κ2 hij hi hj li lj pi pj
    simp only [T.get?_set] at hi hj
    by_cases ei : i = h.next
    · subst ei
      simp only [if_true, Option.some.injEq] at hi
      subst hi
      cases li
    · rw [if_neg ei] at hi
      rw [Map.add_ne _ _ ei] at pi
      by_cases ej : j = h.next
      · subst ej
        simp only [if_true, Option.some.injEq] at hj
        subst hj
        cases lj
      · rw [if_neg ej] at hj
        rw [Map.add_ne _ _ ej] at pj
        exact H.sep i j oi oj b2 σ1 κ1 σ2 κ2 hij hi hj li lj pi pj

/-- A map's new entries. -/
theorem HRel.setMap (H : HRel B0 w0 φ h w) {i : Nat} {es : List (Value × Value)} (ho : h.objs.get? i = some (.map es)) {b σ κ : Nat} (hp : φ i = some (b, σ, κ)) :
    ∃ ents clock, w.heap[b]? = some (.map ents clock) ∧ L2 (fun (p : Value × Value) (e : MapEntry) => VRel φ p.1 e.key ∧ VRel φ p.2 e.val) es ents.toList ∧
      ∀ es' (ents' : Array MapEntry) clock', L2 (fun (p : Value × Value) (e : MapEntry) => VRel φ p.1 e.key ∧ VRel φ p.2 e.val) es' ents'.toList →
        HRel B0 w0 φ { h with objs := h.objs.set i (.map es') } { w with heap := w.heap.setIfInBounds b (.map ents' clock') } := by
  obtain ⟨b', σ', κ', hp', hR⟩ := H.obj i _ ho
  rw [hp] at hp'; cases hp'
  obtain ⟨rfl, rfl, hB, ents, clock, hw, hl⟩ := hR
  refine ⟨ents, clock, hw, hl, fun es' ents' clock' hl' => ?_⟩
  have hlt := H.lt hp
  have hne : ∀ k, k ≠ b → ({ w with heap := w.heap.setIfInBounds b (.map ents' clock') } : World).heap[k]? = w.heap[k]? := fun k hk => by
    simp only []; rw [Array.getElem?_setIfInBounds_ne (Ne.symm hk)]
  have hsame : ({ w with heap := w.heap.setIfInBounds b (.map ents' clock') } : World).heap[b]? = some (.map ents' clock') := by
    simp only []; rw [Array.getElem?_setIfInBounds_self, if_pos hlt]
  refine ⟨H.base, Below.growTo H.below rfl rfl rfl (by simp) (fun k hk => hne k (by omega)), fun j x hx => ⟨(H.dom j x hx).1, by simpa using (H.dom j x hx).2⟩, ?_, ?_, ?_⟩
  · intro j o hj
    simp only [T.get?_set] at hj
    by_cases hji : j = i
    · subst hji
      simp only [if_true, Option.some.injEq] at hj
      subst hj
      exact ⟨b, 0, 0, hp, rfl, rfl, hB, ents', clock', hsame, hl'⟩
    · simp only [if_neg hji] at hj
      obtain ⟨b2, σ2, κ2, hp2, hR2⟩ := H.obj j o hj
      refine ⟨b2, σ2, κ2, hp2, ?_⟩
      by_cases hlive : live h.fams o
      · by_cases hbb : b2 = b
        · subst hbb
          have := (H.sep j i o _ _ _ _ _ _ hji hj ho hlive trivial hp2 hp).1
          cases o <;> exact this.elim
        · exact hR2.same (hne _ hbb)
      · cases o with
        | var cs2 n2 ro2 =>
          have hro : ro2 = true := by cases ro2 <;> simp_all [live]
          obtain ⟨e1, e2, e3, e4, e5⟩ := hR2
          rcases e5 hro with hlt2 | hn0
          · exact ORel.same (o := .var cs2 n2 ro2) ⟨e1, e2, e3, e4, e5⟩ (hne _ (by omega))
          · exact ⟨e1, e2, fun k x hk => by omega, fun e => (by rw [hro] at e; cases e), e5⟩
        | row f g lo hi sz cs2 => intro fm hf hg; exact absurd ⟨fm, hf, hg⟩ hlive
        | map es => exact absurd trivial hlive
  · intro j f g lo hi sz cs2 hj
    simp only [T.get?_set] at hj
    split at hj
    · cases hj
    · exact H.fam j f g lo hi sz cs2 hj
  · intro j k oj ok b2 σ2 κ2 σ3 κ3 hjk hj hk lj lk pj pk
    simp only [T.get?_set] at hj hk
    by_cases hji : j = i
    · subst hji
      simp only [if_true, Option.some.injEq] at hj
      rw [if_neg (Ne.symm hjk)] at hk
      have := H.sep j k _ ok b2 σ2 κ2 σ3 κ3 hjk ho hk trivial lk pj pk
      subst hj
      exact ⟨by have := this.1; cases ok <;> exact this.elim, this.2⟩
    · rw [if_neg hji] at hj
      by_cases hki : k = i
      · subst hki
        simp only [if_true, Option.some.injEq] at hk
        have := H.sep j k oj _ b2 σ2 κ2 σ3 κ3 hjk hj ho lj trivial pj pk
        subst hk
        exact ⟨by have := this.1; cases oj <;> exact this.elim, this.2⟩
      · rw [if_neg hki] at hk
        exact H.sep j k oj ok b2 σ2 κ2 σ3 κ3 hjk hj hk lj lk pj pk

theorem nextGen_spec (ext e g : Nat) : (ext ≤ e ∧ nextGen ext e g = g) ∨ (e < ext ∧ nextGen ext e g = g + 1) := by
  unfold nextGen
  cases hb : Nat.ble ext e with
  | true => exact .inl ⟨ble_true hb, rfl⟩
  | false =>
    refine .inr ⟨?_, rfl⟩
    rcases Nat.lt_or_ge e ext with h | h
    · exact h
    · rw [Nat.ble_eq_true_of_le h] at hb; cases hb

/-- The families behind a growth: at the place that nobody has gone beyond, nothing turns; else all but the new row are stale. -/
theorem HRel.grow (H : HRel B0 w0 φ h w) {i f g lo hi sz : Nat} {cs : T Value} {fm : Fam} {b σ κ : Nat} (ho : h.objs.get? i = some (.row f g lo hi sz cs)) (hp : φ i = some (b, σ, κ))
    (hfm : h.fams.get? f = some fm) (hg : fm.gen = g) {off e : Nat} (hlo : lo ≤ off) (hoe : off ≤ e) (hehi : e ≤ hi) (hfrz : fm.frz ≤ e) {new new' : List Value} (hl : LRel φ new new') (h1 : allOne new = true)
    {g' : Nat} (hg' : g' = nextGen fm.ext e g) :
    (∀ κ', hi + κ * sz = e + new.length + κ' * sz → ∃ w' ψ, (storeCells ⟨b, e - σ, none⟩ new').run P w = .ok () w' ∧ φ.le ψ ∧ ψ h.next = some (b, σ, κ') ∧
      HRel B0 w0 ψ { next := h.next + 1, objs := h.objs.set h.next (.row f g' off (e + new.length) sz (cs.setL e new)), fams := h.fams.set f { fm with gen := g', ext := e + new.length } } w') ∧
    (∀ κ' (old' rest : List Value) (ty : TypeId), (∀ j v', old'[j]? = some v' → w.cell? ⟨b, off - σ + j, none⟩ = some v') → old'.length = e - off → rest.length = κ' * sz → ∃ ψ, φ.le ψ ∧ ψ h.next = some (w.heap.size, off, κ') ∧
      HRel B0 w0 ψ { next := h.next + 1, objs := h.objs.set h.next (.row f g' off (e + new.length) sz (cs.setL e new)), fams := h.fams.set f { fm with gen := g', ext := e + new.length } } (w.alloc (.cells ⟨old' ++ new' ++ rest⟩ ty))) := by
  obtain ⟨b', σ', κ0, hp', hR⟩ := H.obj i _ ho
  rw [hp] at hp'; cases hp'
  obtain ⟨hB, hs, hext, h4, h5, h6⟩ := hR fm hfm hg
  obtain ⟨hfn, fm1, hfm1, hgle⟩ := H.fam i _ _ _ _ _ _ ho
  have hil : live h.fams (.row f g lo hi sz cs) := ⟨fm, hfm, hg⟩
  have hng := nextGen_spec fm.ext e g
  rw [← hg'] at hng
  have hgg : fm.gen ≤ g' := by omega
  -- what is live behind it was live, and lies ahead of e where it is of the family
  have was : ∀ j o, h.objs.get? j = some o → live (h.fams.set f { fm with gen := g', ext := e + new.length }) o →
      live h.fams o ∧ ∀ g2 lo2 hi2 sz2 cs2, o = .row f g2 lo2 hi2 sz2 cs2 → hi2 ≤ e ∧ hi2 ≤ fm.ext ∧ g' = fm.gen := by
    intro j o hj hlv
    cases o with
    | var a n ro => exact ⟨hlv, fun _ _ _ _ _ e => by cases e⟩
    | map es => exact ⟨trivial, fun _ _ _ _ _ e => by cases e⟩
    | row f2 g2 lo2 hi2 sz2 cs2 =>
      obtain ⟨fm2, hf2, hg2⟩ := hlv
      simp only [T.get?_set] at hf2
      by_cases hff : f2 = f
      · subst hff
        simp only [if_true, Option.some.injEq] at hf2
        subst hf2
        simp only at hg2
        obtain ⟨_, fm3, hf3, hg3⟩ := H.fam j _ _ _ _ _ _ hj
        rw [hfm] at hf3; cases hf3
        have hgf : g' = fm.gen := by omega
        have hext2 : fm.ext ≤ e := by
          omega
        obtain ⟨b3, σ3, κ3, hp3, hR3⟩ := H.obj j _ hj
        have := (hR3 fm hfm (by omega)).2.2.1
        exact ⟨⟨fm, hfm, by omega⟩, fun g4 lo4 hi4 sz4 cs4 e4 => by cases e4; exact ⟨by omega, this, hgf⟩⟩
      · rw [if_neg hff] at hf2
        exact ⟨⟨fm2, hf2, hg2⟩, fun _ _ _ _ _ e => by cases e; exact absurd rfl hff⟩
  have hnk : φ h.next = none := H.free (Nat.le_refl _)
  have famOf : ∀ j f2 g2 lo2 hi2 sz2 cs2, (h.objs.set h.next (.row f g' off (e + new.length) sz (cs.setL e new))).get? j = some (.row f2 g2 lo2 hi2 sz2 cs2) →
      f2 < h.next + 1 ∧ ∃ fm2, (h.fams.set f { fm with gen := g', ext := e + new.length }).get? f2 = some fm2 ∧ g2 ≤ fm2.gen := by
    intro j f2 g2 lo2 hi2 sz2 cs2 hj
    simp only [T.get?_set] at hj ⊢
    split at hj
    · simp only [Option.some.injEq, AObj.row.injEq] at hj
      obtain ⟨rfl, rfl, _⟩ := hj
      exact ⟨by omega, _, by rw [if_pos rfl], Nat.le_refl _⟩
    · obtain ⟨k1, fm2, k2, k3⟩ := H.fam j _ _ _ _ _ _ hj
      refine ⟨by omega, ?_⟩
      by_cases hff : f2 = f
      · subst hff
        rw [hfm] at k2; cases k2
        exact ⟨_, by rw [if_pos rfl], by simp only []; omega⟩
      · exact ⟨fm2, by rw [if_neg hff]; exact k2, k3⟩
  constructor
  · intro κ' hκ
    have hlen : new'.length = new.length := hl.1.symm
    have hcell : ∀ j, j < new'.length → (w.cell? ⟨b, e - σ + 0 + j, none⟩).isSome = true := fun j hj => by
      obtain ⟨u, hu⟩ := h5 (e + j) (by omega) (by omega)
      rw [show e - σ + 0 + j = e + j - σ from by omega, hu]; rfl
    have hfr : ∀ j, j < new'.length → w.frozen? ⟨b, e - σ + 0 + j, none⟩ = false := fun j hj => by
      rw [show e - σ + 0 + j = e + j - σ from by omega]
      exact h6 (e + j) (by omega) (by omega) (by omega)
    have hrun := run_storeCells_cells (P := P) b (e - σ) new' 0 w hcell hfr (hl.one h1)
    have hle : φ.le (φ.add h.next (b, σ, κ')) := Map.le_add hnk
    refine ⟨_, φ.add h.next (b, σ, κ'), hrun, hle, Map.add_same _ _ _, ?_⟩
    have hsz : ∀ (vs : List Value) (o : Nat) (w : World), (w.setCells b o vs).heap.size = w.heap.size := by
      intro vs; induction vs with
      | nil => intro o w; rfl
      | cons v r ih => intro o w; simp [World.setCells, ih]
    have hother : ∀ (vs : List Value) (o : Nat) (w : World) (k : Nat), k ≠ b → (w.setCells b o vs).heap[k]? = w.heap[k]? := by
      intro vs; induction vs with
      | nil => intro o w k _; rfl
      | cons v r ih => intro o w k hk; rw [World.setCells, ih _ _ _ hk, heap_setCell_ne _ _ _ _ hk]
    have hbelow : ∀ (vs : List Value) (o : Nat) (w : World), Below B0 w0 w → Below B0 w0 (w.setCells b o vs) := by
      intro vs; induction vs with
      | nil => intro o w hw; exact hw
      | cons v r ih => intro o w hw; exact ih _ _ (hw.setCell (by exact hB) _)
    refine ⟨H.base, hbelow _ _ _ H.below, ?_, ?_, famOf, ?_⟩
    · intro j y hy
      rw [hsz]
      unfold Map.add at hy
      split at hy
      · rename_i e1; subst e1; simp at hy; subst hy; exact ⟨Nat.lt_succ_self _, H.lt hp⟩
      · have := H.dom j y hy; exact ⟨Nat.lt_succ_of_lt this.1, this.2⟩
    · intro j oj hj
      simp only [T.get?_set] at hj
      by_cases ej : j = h.next
      · subst ej
        simp only [if_true, Option.some.injEq] at hj
        subst hj
        refine ⟨b, σ, κ', Map.add_same _ _ _, ?_⟩
        intro fm2 hf2 _
        rw [T.get?_set_same] at hf2
        simp only [Option.some.injEq] at hf2
        subst hf2
        refine ⟨hB, by omega, Nat.le_refl _, ?_, ?_, ?_⟩
        · intro c v c1 c2 hv
          rw [T.get?_setL] at hv
          by_cases hce : e ≤ c
          · rw [if_pos ⟨hce, c2⟩] at hv
            obtain ⟨v', hv', hr⟩ := hl.get hv
            have hj' : c - e < new'.length := (List.getElem?_eq_some_iff.1 hv').1
            have := World.cell?_setCells_in b new' (e - σ + 0) w hcell (c - e) hj'
            refine ⟨v', ?_, hr.mono hle⟩
            rw [show c - σ = e - σ + 0 + (c - e) from by omega, this]
            rw [List.getElem?_eq_getElem hj'] at hv'
            exact hv'
          · rw [if_neg (by omega)] at hv
            obtain ⟨v', hv', hr⟩ := h4 c v (by omega) (by omega) hv
            refine ⟨v', ?_, hr.mono hle⟩
            rw [World.cell?_setCells_out b new' _ w _ (fun _ _ => .inl (by simp only []; omega))]
            exact hv'
        · intro c c1 c2
          by_cases hce : e ≤ c ∧ c < e + new'.length
          · have := World.cell?_setCells_in b new' (e - σ + 0) w hcell (c - e) (by omega)
            exact ⟨_, by rw [show c - σ = e - σ + 0 + (c - e) from by omega]; exact this⟩
          · obtain ⟨u, hu⟩ := h5 c (by omega) (by omega)
            refine ⟨u, ?_⟩
            rw [World.cell?_setCells_out b new' _ w _ (fun _ _ => by simp only []; omega)]
            exact hu
        · intro c c0 c1 c2
          rw [World.frozen?_setCells]
          exact h6 c c0 (by omega) (by omega)
      · rw [if_neg ej] at hj
        obtain ⟨b2, σ2, κ2, hp2, hR2⟩ := H.obj j oj hj
        refine ⟨b2, σ2, κ2, hle _ _ hp2, ?_⟩
        by_cases hbb : b2 = b
        · -- the same block: of the family, ahead of e
          subst hbb
          cases oj with
          | var cs2 n2 ro2 =>
            cases ro2 with
            | false =>
              have hji : j ≠ i := fun e => by subst e; rw [ho] at hj; cases hj
              exact (H.sep j i _ _ _ _ _ _ _ hji hj ho rfl hil hp2 hp).1.elim
            | true =>
              obtain ⟨e1, e2, e3, e4, e5⟩ := hR2
              rcases e5 rfl with hlt2 | hn0
              · omega
              · exact ⟨e1, e2, fun k x hk => by omega, fun e => (by cases e), e5⟩
          | map es =>
            have hji : j ≠ i := fun e => by subst e; rw [ho] at hj; cases hj
            exact (H.sep j i _ _ _ _ _ _ _ hji hj ho trivial hil hp2 hp).1.elim
          | row f2 g2 lo2 hi2 sz2 cs2 =>
            intro fm2 hf2 hg2
            obtain ⟨ol, hfam⟩ := was j _ hj ⟨fm2, hf2, hg2⟩
            have hff : f2 = f ∧ σ2 = σ ∧ κ2 * sz2 = κ2 * sz2 := by
              by_cases hji : j = i
              · subst hji; rw [ho] at hj; cases hj; rw [hp] at hp2; cases hp2; exact ⟨rfl, rfl, rfl⟩
              · have := H.sep j i _ _ _ _ _ _ _ hji hj ho ol hil hp2 hp
                exact ⟨this.1, this.2, rfl⟩
            obtain ⟨rfl, rfl, _⟩ := hff
            obtain ⟨hh1, hh2, hh3⟩ := hfam _ _ _ _ _ rfl
            simp only [T.get?_set, if_true, Option.some.injEq] at hf2
            subst hf2
            obtain ⟨q1, q2, q3, q4, q5, q6⟩ := hR2 fm hfm (by simp only [] at hg2; omega)
            refine ⟨q1, q2, by simp only []; omega, ?_, ?_, ?_⟩
            · intro c v c1 c2 hv
              obtain ⟨v', hv', hr⟩ := q4 c v c1 c2 hv
              refine ⟨v', ?_, hr.mono hle⟩
              rw [World.cell?_setCells_out b2 new' _ w _ (fun _ _ => .inl (by simp only []; omega))]
              exact hv'
            · intro c c1 c2
              obtain ⟨u, hu⟩ := q5 c c1 c2
              by_cases hin : e - σ2 ≤ c - σ2 ∧ c - σ2 < e - σ2 + new'.length
              · have := World.cell?_setCells_in b2 new' (e - σ2 + 0) w hcell (c - σ2 - (e - σ2)) (by omega)
                exact ⟨_, by rw [show c - σ2 = e - σ2 + 0 + (c - σ2 - (e - σ2)) from by omega]; exact this⟩
              · exact ⟨u, by rw [World.cell?_setCells_out b2 new' _ w _ (fun _ _ => by simp only []; omega)]; exact hu⟩
            · intro c c0 c1 c2
              rw [World.frozen?_setCells]
              exact q6 c c0 c1 c2
        · have hR3 := (hR2.mono hle).same (w' := w.setCells b (e - σ + 0) new') (hother _ _ _ _ hbb)
          cases oj with
          | var a n ro => exact hR3
          | map es => exact hR3
          | row f2 g2 lo2 hi2 sz2 cs2 =>
            intro fm2 hf2 hg2
            by_cases hff : f2 = f
            · subst hff
              obtain ⟨ol, hfam⟩ := was j _ hj ⟨fm2, hf2, hg2⟩
              obtain ⟨hh1, hh2, hh3⟩ := hfam _ _ _ _ _ rfl
              simp only [T.get?_set, if_true, Option.some.injEq] at hf2
              subst hf2
              obtain ⟨q1, q2, q3, q4, q5, q6⟩ := hR3 fm hfm (by simp only [] at hg2; omega)
              exact ⟨q1, q2, by simp only []; omega, q4, q5, q6⟩
            · simp only [T.get?_set, if_neg hff] at hf2
              exact hR3 fm2 hf2 hg2
    · intro j k oj ok b2 σ2 κ2 σ3 κ3 hjk hj hk lj lk pj pk
      simp only [T.get?_set] at hj hk
      have key : ∀ x ox bx σx κx, x ≠ h.next → h.objs.get? x = some ox → live h.fams ox → φ x = some (bx, σx, κx) → bx = b → kin ox (.row f g lo hi sz cs) ∧ σx = σ := by
        intro x ox bx σx κx _ hx lx px hb
        rw [hb] at px
        by_cases hxi : x = i
        · rw [hxi, ho] at hx; cases hx; rw [hxi, hp] at px; cases px; exact ⟨rfl, rfl⟩
        · exact H.sep x i _ _ _ _ _ _ _ hxi hx ho lx hil px hp
      by_cases ej : j = h.next
      · subst ej
        rw [if_pos rfl] at hj
        simp only [Option.some.injEq] at hj; subst hj
        rw [Map.add_same] at pj
        simp only [Option.some.injEq, Prod.mk.injEq] at pj
        obtain ⟨rfl, rfl, rfl⟩ := pj
        rw [if_neg (Ne.symm hjk)] at hk
        rw [Map.add_ne _ _ (Ne.symm hjk)] at pk
        have := key k ok _ _ _ (Ne.symm hjk) hk (was k ok hk lk).1 pk rfl
        exact ⟨by cases ok <;> first | exact this.1.elim | exact Eq.symm this.1, this.2.symm⟩
      · rw [if_neg ej] at hj
        rw [Map.add_ne _ _ ej] at pj
        by_cases ek : k = h.next
        · subst ek
          rw [if_pos rfl] at hk
          simp only [Option.some.injEq] at hk; subst hk
          rw [Map.add_same] at pk
          simp only [Option.some.injEq, Prod.mk.injEq] at pk
          obtain ⟨rfl, rfl, rfl⟩ := pk
          have := key j oj _ _ _ ej hj (was j oj hj lj).1 pj rfl
          exact ⟨by cases oj <;> first | exact this.1.elim | exact this.1, this.2⟩
        · rw [if_neg ek] at hk
          rw [Map.add_ne _ _ ek] at pk
          exact H.sep j k oj ok b2 σ2 κ2 σ3 κ3 hjk hj hk (was j oj hj lj).1 (was k ok hk lk).1 pj pk
  · intro κ' old' rest ty hold hol hrest
    have hlen : new'.length = new.length := hl.1.symm
    have hle : φ.le (φ.add h.next (w.heap.size, off, κ')) := Map.le_add hnk
    refine ⟨φ.add h.next (w.heap.size, off, κ'), hle, Map.add_same _ _ _, ?_⟩
    have hnb : ∀ i b σ κ, φ i = some (b, σ, κ) → b ≠ w.heap.size := fun i b σ κ hp => Nat.ne_of_lt (H.lt hp)
    refine ⟨H.base, H.below.alloc (Nat.le_trans H.base H.below.size) _, ?_, ?_, famOf, ?_⟩
    · intro j y hy
      unfold Map.add at hy
      split at hy
      · rename_i e1; subst e1; simp at hy; subst hy; exact ⟨Nat.lt_succ_self _, by simp⟩
      · have := H.dom j y hy; exact ⟨Nat.lt_succ_of_lt this.1, by simp; omega⟩
    · intro j oj hj
      simp only [T.get?_set] at hj
      by_cases ej : j = h.next
      · subst ej
        simp only [if_true, Option.some.injEq] at hj
        subst hj
        refine ⟨w.heap.size, off, κ', Map.add_same _ _ _, ?_⟩
        intro fm2 hf2 _
        rw [T.get?_set_same] at hf2
        simp only [Option.some.injEq] at hf2
        subst hf2
        refine ⟨Nat.le_trans H.base H.below.size, Nat.le_refl _, Nat.le_refl _, ?_, ?_, fun c _ _ _ => World.frozen?_alloc_new _ _ _ _⟩
        · intro c v c1 c2 hv
          rw [T.get?_setL] at hv
          rw [cell_new]
          simp only [List.getElem?_toArray]
          by_cases hce : e ≤ c
          · rw [if_pos ⟨hce, c2⟩] at hv
            obtain ⟨v', hv', hr⟩ := hl.get hv
            refine ⟨v', ?_, hr.mono hle⟩
            rw [List.append_assoc, List.getElem?_append_right (by omega), List.getElem?_append_left (by omega), hol, show c - off - (e - off) = c - e from by omega]
            exact hv'
          · rw [if_neg (by omega)] at hv
            obtain ⟨v', hv', hr⟩ := h4 c v (by omega) (by omega) hv
            refine ⟨v', ?_, hr.mono hle⟩
            have hlt : c - off < old'.length := by omega
            rw [List.append_assoc, List.getElem?_append_left hlt]
            have := hold (c - off) _ (List.getElem?_eq_getElem hlt)
            rw [show off - σ + (c - off) = c - σ from by omega, hv'] at this
            rw [List.getElem?_eq_getElem hlt]
            exact this.symm
        · intro c c1 c2
          rw [cell_new]
          simp only [List.getElem?_toArray]
          refine ⟨(old' ++ new' ++ rest)[c - off]'(by simp; omega), ?_⟩
          simp
      · rw [if_neg ej] at hj
        obtain ⟨b2, σ2, κ2, hp2, hR2⟩ := H.obj j oj hj
        refine ⟨b2, σ2, κ2, hle _ _ hp2, ?_⟩
        have hR3 := (hR2.mono hle).same (w' := w.alloc (.cells ⟨old' ++ new' ++ rest⟩ ty)) (by simp only [World.alloc, Array.getElem?_push]; rw [if_neg (Nat.ne_of_lt (H.lt hp2))])
        cases oj with
        | var a n ro => exact hR3
        | map es => exact hR3
        | row f2 g2 lo2 hi2 sz2 cs2 =>
          intro fm2 hf2 hg2
          by_cases hff : f2 = f
          · subst hff
            obtain ⟨ol, hfam⟩ := was j _ hj ⟨fm2, hf2, hg2⟩
            obtain ⟨hh1, hh2, hh3⟩ := hfam _ _ _ _ _ rfl
            simp only [T.get?_set, if_true, Option.some.injEq] at hf2
            subst hf2
            obtain ⟨q1, q2, q3, q4, q5, q6⟩ := hR3 fm hfm (by simp only [] at hg2; omega)
            exact ⟨q1, q2, by simp only []; omega, q4, q5, q6⟩
          · simp only [T.get?_set, if_neg hff] at hf2
            exact hR3 fm2 hf2 hg2
    · intro j k oj ok b2 σ2 κ2 σ3 κ3 hjk hj hk lj lk pj pk
      simp only [T.get?_set] at hj hk
      by_cases ej : j = h.next
      · subst ej
        rw [Map.add_same] at pj
        simp only [Option.some.injEq, Prod.mk.injEq] at pj
        rw [Map.add_ne _ _ (Ne.symm hjk)] at pk
        exact absurd pj.1.symm (hnb _ _ _ _ pk)
      · rw [if_neg ej] at hj
        rw [Map.add_ne _ _ ej] at pj
        by_cases ek : k = h.next
        · subst ek
          rw [Map.add_same] at pk
          simp only [Option.some.injEq, Prod.mk.injEq] at pk
          exact absurd pk.1.symm (hnb _ _ _ _ pj)
        · rw [if_neg ek] at hk
          rw [Map.add_ne _ _ ek] at pk
          exact H.sep j k oj ok b2 σ2 κ2 σ3 κ3 hjk hj hk (was j oj hj lj).1 (was k ok hk lk).1 pj pk

end Go.Abs
