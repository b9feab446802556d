/- The relation of the heaps, and what one cell's reading and writing do to it. -/
import Derived.Test.YtgdkekdedgkglaaBkRel
open Go.RowKit
namespace Go.Abs

def ORel (φ : Map) (fams : T Fam) (B0 : Nat) (w : World) (b σ κ : Nat) : AObj → Prop
  | .var cs n ro => σ = 0 ∧ κ = 0 ∧ (∀ off v, off < n → cs.get? off = some v → ∃ v', w.cell? ⟨b, off, none⟩ = some v' ∧ VRel φ v v') ∧
      (ro = false → B0 ≤ b ∧ ∀ off, off < n → (∃ u, w.cell? ⟨b, off, none⟩ = some u) ∧ w.frozen? ⟨b, off, none⟩ = false) ∧ (ro = true → b < B0 ∨ n = 0)
  | .row f g lo hi sz cs => ∀ fm, fams.get? f = some fm → fm.gen = g →
      B0 ≤ b ∧ σ ≤ lo ∧ hi ≤ fm.ext ∧ (∀ c v, lo ≤ c → c < hi → cs.get? c = some v → ∃ v', w.cell? ⟨b, c - σ, none⟩ = some v' ∧ VRel φ v v') ∧
      (∀ c, lo ≤ c → c < hi + κ * sz → ∃ u, w.cell? ⟨b, c - σ, none⟩ = some u) ∧
      (∀ c, fm.frz ≤ c → lo ≤ c → c < hi + κ * sz → w.frozen? ⟨b, c - σ, none⟩ = false)
  | .map es => σ = 0 ∧ κ = 0 ∧ B0 ≤ b ∧ ∃ ents clock, w.heap[b]? = some (.map ents clock) ∧ L2 (fun (p : Value × Value) (e : MapEntry) => VRel φ p.1 e.key ∧ VRel φ p.2 e.val) es ents.toList

def live (fams : T Fam) : AObj → Prop
  | .var _ _ ro => ro = false
  | .row f g _ _ _ _ => ∃ fm, fams.get? f = some fm ∧ fm.gen = g
  | .map _ => True

def kin : AObj → AObj → Prop
  | .row f _ _ _ _ _, .row f' _ _ _ _ _ => f = f'
  | _, _ => False

structure HRel (B0 : Nat) (w0 : World) (φ : Map) (h : AW) (w : World) : Prop where
  base : B0 ≤ w0.heap.size
  below : Below B0 w0 w
  dom : ∀ i x, φ i = some x → i < h.next ∧ x.1 < w.heap.size
  obj : ∀ i o, h.objs.get? i = some o → ∃ b σ κ, φ i = some (b, σ, κ) ∧ ORel φ h.fams B0 w b σ κ o
  fam : ∀ i f g lo hi sz cs, h.objs.get? i = some (.row f g lo hi sz cs) → f < h.next ∧ ∃ fm, h.fams.get? f = some fm ∧ g ≤ fm.gen
  sep : ∀ i j oi oj b σ κ σ' κ', i ≠ j → h.objs.get? i = some oi → h.objs.get? j = some oj → live h.fams oi → live h.fams oj →
    φ i = some (b, σ, κ) → φ j = some (b, σ', κ') → kin oi oj ∧ σ = σ'

theorem ORel.mono {φ ψ : Map} (hm : φ.le ψ) {fams : T Fam} {B0 : Nat} {w : World} {b σ κ : Nat} {o : AObj} (h : ORel φ fams B0 w b σ κ o) : ORel ψ fams B0 w b σ κ o := by
  cases o with
  | var cs n ro =>
    obtain ⟨h1, h2, h3, h4, h5⟩ := h
    exact ⟨h1, h2, fun off v a c => let ⟨v', d, e⟩ := h3 off v a c; ⟨v', d, e.mono hm⟩, h4, h5⟩
  | row f g lo hi sz cs =>
    intro fm hf hg
    obtain ⟨h1, h2, h3, h4, h5, h6⟩ := h fm hf hg
    exact ⟨h1, h2, h3, fun c v a d e => let ⟨v', x, y⟩ := h4 c v a d e; ⟨v', x, y.mono hm⟩, h5, h6⟩
  | map es =>
    obtain ⟨h1, h2, h3, ents, clock, h4, h5⟩ := h
    exact ⟨h1, h2, h3, ents, clock, h4, L2.mono (fun p e x => ⟨x.1.mono hm, x.2.mono hm⟩) h5⟩

/-- What is related stays so where the block's cells, marks and kind are as they were. -/
theorem ORel.same {φ : Map} {fams : T Fam} {B0 : Nat} {w w' : World} {b σ κ : Nat} {o : AObj} (h : ORel φ fams B0 w b σ κ o) (hb : w'.heap[b]? = w.heap[b]?) : ORel φ fams B0 w' b σ κ o := by
  have hc : ∀ k, w'.cell? ⟨b, k, none⟩ = w.cell? ⟨b, k, none⟩ := fun k => by simp [World.cell?, hb]
  have hf : ∀ k, w'.frozen? ⟨b, k, none⟩ = w.frozen? ⟨b, k, none⟩ := fun k => by simp [World.frozen?, hb]
  cases o with
  | var cs n ro => simpa only [ORel, hc, hf] using h
  | row f g lo hi sz cs => simpa only [ORel, hc, hf] using h
  | map es => simpa only [ORel, hb] using h

theorem HRel.lt {B0 : Nat} {w0 : World} {φ : Map} {h : AW} {w : World} (H : HRel B0 w0 φ h w) {i : Nat} {b σ κ : Nat} (hi : φ i = some (b, σ, κ)) : b < w.heap.size := (H.dom i _ hi).2
theorem HRel.free {B0 : Nat} {w0 : World} {φ : Map} {h : AW} {w : World} (H : HRel B0 w0 φ h w) {i : Nat} (hi : h.next ≤ i) : φ i = none := by
  cases hx : φ i with
  | none => rfl
  | some x => have := (H.dom i x hx).1; omega
theorem HRel.objFree {B0 : Nat} {w0 : World} {φ : Map} {h : AW} {w : World} (H : HRel B0 w0 φ h w) {i : Nat} (hi : h.next ≤ i) : h.objs.get? i = none := by
  cases hx : h.objs.get? i with
  | none => rfl
  | some o => obtain ⟨b, σ, κ, hp, _⟩ := H.obj i o hx; rw [H.free hi] at hp; cases hp

theorem Below.growTo {B : Nat} {w0 w w' : World} (h : Below B w0 w) (ho : w'.os = w.os) (ht : w'.tape = w.tape) (hu : w'.output = w.output) (hs : w.heap.size ≤ w'.heap.size) (hb : ∀ k, k < B → w'.heap[k]? = w.heap[k]?) : Below B w0 w' :=
  h.trans ⟨ho, ht, hu, hs, hb⟩

/-- A draw turns nothing. -/
theorem HRel.drew {B0 : Nat} {w0 : World} {φ : Map} {h : AW} {w : World} (H : HRel B0 w0 φ h w) : HRel B0 w0 φ h w.drew :=
  ⟨H.base, H.below.drew, H.dom, fun i o ho => let ⟨b, σ, κ, hp, hr⟩ := H.obj i o ho; ⟨b, σ, κ, hp, hr.same rfl⟩, H.fam, H.sep⟩

theorem beq_true {a b : Nat} (h : Nat.beq a b = true) : a = b := Nat.eq_of_beq_eq_true h
theorem ble_true {a b : Nat} (h : Nat.ble a b = true) : a ≤ b := Nat.le_of_ble_eq_true h

/-- A cell that the deterministic heap reads lies in the world. -/
theorem HRel.rd {B0 : Nat} {w0 : World} {φ : Map} {h : AW} {w : World} (H : HRel B0 w0 φ h w) {i off : Nat} {v : Value} (hr : h.rd i off = some v) {b σ κ : Nat} (hp : φ i = some (b, σ, κ)) :
    σ ≤ off ∧ ∃ v', w.cell? ⟨b, off - σ, none⟩ = some v' ∧ VRel φ v v' := by
  unfold AW.rd at hr
  split at hr
  · rename_i cs n ro ho
    obtain ⟨b', σ', κ', hp', hR⟩ := H.obj i _ ho
    rw [hp] at hp'; cases hp'
    obtain ⟨rfl, rfl, h3, _⟩ := hR
    split at hr
    · rename_i hn
      exact ⟨Nat.zero_le _, h3 off v (ble_true hn) hr⟩
    · cases hr
  · rename_i f g lo hi sz cs ho
    obtain ⟨b', σ', κ', hp', hR⟩ := H.obj i _ ho
    rw [hp] at hp'; cases hp'
    split at hr
    · rename_i fm hf
      split at hr
      · rename_i hc
        simp only [Bool.and_eq_true] at hc
        obtain ⟨⟨c1, c2⟩, c3⟩ := hc
        obtain ⟨_, h2, _, h4, _⟩ := hR fm hf (beq_true c1)
        exact ⟨Nat.le_trans h2 (ble_true c2), h4 off v (ble_true c2) (ble_true c3) hr⟩
      · cases hr
    · cases hr
  · cases hr

theorem HRel.rdN {B0 : Nat} {w0 : World} {φ : Map} {h : AW} {w : World} (H : HRel B0 w0 φ h w) {i b σ κ : Nat} (hp : φ i = some (b, σ, κ)) :
    ∀ {n off : Nat} {l : List Value}, h.rdN i off n = some l → l.length = n ∧ (n ≠ 0 → σ ≤ off) ∧ ∃ l', LRel φ l l' ∧ ∀ j v', l'[j]? = some v' → w.cell? ⟨b, off - σ + j, none⟩ = some v' := by
  intro n
  induction n with
  | zero => intro off l hr; simp only [AW.rdN, Option.some.injEq] at hr; subst hr; exact ⟨rfl, fun h => absurd rfl h, [], L2.nil, fun j v' h => by simp at h⟩
  | succ n ih =>
    intro off l hr
    simp only [AW.rdN] at hr
    split at hr
    · rename_i v hv
      split at hr
      · rename_i t ht
        simp only [Option.some.injEq] at hr; subst hr
        obtain ⟨hs, v', hc, hvr⟩ := H.rd hv hp
        obtain ⟨hl, _, l', hlr, hcs⟩ := ih ht
        refine ⟨by simp [hl], fun _ => hs, v' :: l', L2.cons hvr hlr, fun j u hu => ?_⟩
        cases j with
        | zero => simp at hu; subst hu; exact hc
        | succ j => simp at hu; have := hcs j u hu; rw [show off - σ + (j + 1) = off + 1 - σ + j from by omega]; exact this
      · cases hr
    · cases hr

theorem heap_setCell_ne (w : World) (a : Addr) (v : Value) (k : Nat) (h : k ≠ a.block) : (w.setCell a v).heap[k]? = w.heap[k]? := heap_setCell_other w a k v h

/-- A store. -/
theorem HRel.wr {B0 : Nat} {w0 : World} {φ : Map} {h h' : AW} {w : World} (H : HRel B0 w0 φ h w) {i off : Nat} {v v' : Value} (hw : h.wr i off v = some h') (hv : VRel φ v v') {b σ κ : Nat} (hp : φ i = some (b, σ, κ)) :
    σ ≤ off ∧ (∃ u, w.cell? ⟨b, off - σ, none⟩ = some u) ∧ w.frozen? ⟨b, off - σ, none⟩ = false ∧ v'.oneCell' = true ∧ HRel B0 w0 φ h' (w.setCell ⟨b, off - σ, none⟩ v') := by
  unfold AW.wr at hw
  split at hw
  · cases hw
  rename_i h1
  have hone := hv.one h1
  split at hw
  · rename_i cs n ho
    split at hw
    · rename_i hn
      simp only [Option.some.injEq] at hw
      obtain ⟨b', σ', κ', hp', hR⟩ := H.obj i _ ho
      rw [hp] at hp'; cases hp'
      obtain ⟨rfl, rfl, h3, h4, h5⟩ := hR
      obtain ⟨hB, hcell⟩ := h4 rfl
      have hlt := ble_true hn
      obtain ⟨⟨u, hu⟩, hfr⟩ := hcell off hlt
      refine ⟨Nat.zero_le _, ⟨u, hu⟩, hfr, hone, ?_⟩
      subst hw
      simp only [Nat.sub_zero]
      refine ⟨H.base, H.below.setCell hB _, fun j x hx => ⟨(H.dom j x hx).1, by simpa using (H.dom j x hx).2⟩, ?_, ?_, ?_⟩
      · intro j o hj
        simp only [T.get?_set] at hj
        by_cases hji : j = i
        · subst hji
          simp only [if_true, Option.some.injEq] at hj
          subst hj
          refine ⟨b, 0, 0, hp, rfl, rfl, ?_, ?_, fun e => by cases e⟩
          · intro k x hk hx
            simp only [T.get?_set] at hx
            by_cases hko : k = off
            · subst hko
              simp only [if_true, Option.some.injEq] at hx
              subst hx
              exact ⟨v', World.cell?_setCell_same _ _ _ hu, hv⟩
            · simp only [if_neg hko] at hx
              obtain ⟨y, hy, hr⟩ := h3 k x hk hx
              refine ⟨y, ?_, hr⟩
              rw [World.cell?_setCell_other]
              · exact hy
              · intro e; injection e; omega
          · intro _
            refine ⟨hB, fun k hk => ?_⟩
            obtain ⟨⟨y, hy⟩, hf⟩ := hcell k hk
            refine ⟨?_, by rw [World.frozen?_setCell]; exact hf⟩
            by_cases hko : k = off
            · subst hko; exact ⟨v', World.cell?_setCell_same _ _ _ hu⟩
            · exact ⟨y, (World.cell?_setCell_other _ _ _ _ (by intro e; injection e; omega)).trans hy⟩
        · simp only [if_neg hji] at hj
          obtain ⟨b2, σ2, κ2, hp2, hR2⟩ := H.obj j o hj
          refine ⟨b2, σ2, κ2, hp2, ?_⟩
          by_cases hlive : live h.fams o
          · by_cases hbb : b2 = b
            · subst hbb
              have := (H.sep j i o _ _ _ _ _ _ hji hj ho hlive rfl hp2 hp).1
              cases o <;> exact this.elim
            · exact hR2.same (heap_setCell_ne _ _ _ _ hbb)
          · cases o with
            | var cs2 n2 ro2 =>
              have hro : ro2 = true := by cases ro2 <;> simp_all [live]
              obtain ⟨e1, e2, e3, e4, e5⟩ := hR2
              rcases e5 hro with hlt2 | hn0
              · exact ORel.same (o := .var cs2 n2 ro2) ⟨e1, e2, e3, e4, e5⟩ (heap_setCell_ne _ _ _ _ (by show b2 ≠ b; omega))
              · refine ⟨e1, e2, fun k x hk => by omega, fun e => (by rw [hro] at e; cases e), e5⟩
            | row f g lo hi sz cs2 => intro fm hf hg; exact absurd ⟨fm, hf, hg⟩ hlive
            | map es => exact absurd trivial hlive
      · intro j f g lo hi sz cs2 hj
        simp only [T.get?_set] at hj
        split at hj
        · cases hj
        · exact H.fam j f g lo hi sz cs2 hj
      · intro j k oj ok b2 σ2 κ2 σ3 κ3 hjk hj hk lj lk pj pk
        simp only [T.get?_set] at hj hk
        by_cases hji : j = i
        · subst hji
          simp only [if_true, Option.some.injEq] at hj
          rw [if_neg (Ne.symm hjk)] at hk
          have := H.sep j k _ ok b2 σ2 κ2 σ3 κ3 hjk ho hk rfl lk pj pk
          subst hj
          exact ⟨by have := this.1; cases ok <;> exact this.elim, this.2⟩
        · rw [if_neg hji] at hj
          by_cases hki : k = i
          · subst hki
            simp only [if_true, Option.some.injEq] at hk
            have := H.sep j k oj _ b2 σ2 κ2 σ3 κ3 hjk hj ho lj rfl pj pk
            subst hk
            exact ⟨by have := this.1; cases oj <;> exact this.elim, this.2⟩
          · rw [if_neg hki] at hk
            exact H.sep j k oj ok b2 σ2 κ2 σ3 κ3 hjk hj hk lj lk pj pk
    · cases hw
  · rename_i f g lo hi sz cs ho
    split at hw
    · rename_i fm hf
      split at hw
      · rename_i hc
        simp only [Bool.and_eq_true] at hc
        obtain ⟨⟨⟨c1, c2⟩, c3⟩, c4⟩ := hc
        replace c1 := beq_true c1
        replace c2 := ble_true c2
        replace c3 := ble_true c3
        replace c4 := ble_true c4
        simp only [Option.some.injEq] at hw
        obtain ⟨b', σ', κ', hp', hR⟩ := H.obj i _ ho
        rw [hp] at hp'; cases hp'
        obtain ⟨hB, hs, hext, h4, h5, h6⟩ := hR fm hf c1
        have hklt : off < hi + κ * sz := by have : 0 ≤ κ * sz := Nat.zero_le _; omega
        obtain ⟨u, hu⟩ := h5 off c2 hklt
        refine ⟨by omega, ⟨u, hu⟩, h6 off c4 c2 hklt, hone, ?_⟩
        subst hw
        have hil : live h.fams (.row f g lo hi sz cs) := ⟨fm, hf, c1⟩
        -- whatever was live beside i, and is live still, lies elsewhere
        have other : ∀ j o, j ≠ i → h.objs.get? j = some o → live (h.fams.set f { fm with gen := g + 1 }) o → live h.fams o ∧ ¬ (kin o (.row f g lo hi sz cs)) := by
          intro j o hji hj hl
          cases o with
          | var a n ro => exact ⟨hl, fun k => k⟩
          | map es => exact ⟨trivial, fun k => k⟩
          | row f2 g2 lo2 hi2 sz2 cs2 =>
            obtain ⟨fm2, hf2, hg2⟩ := hl
            simp only [T.get?_set] at hf2
            by_cases hff : f2 = f
            · subst hff
              simp only [if_true, Option.some.injEq] at hf2
              subst hf2
              obtain ⟨_, fm3, hf3, hg3⟩ := H.fam j _ _ _ _ _ _ hj
              rw [hf] at hf3; cases hf3
              simp only at hg2
              omega
            · rw [if_neg hff] at hf2
              exact ⟨⟨fm2, hf2, hg2⟩, fun k => hff k⟩
        refine ⟨H.base, H.below.setCell hB _, fun j x hx => ⟨(H.dom j x hx).1, by simpa using (H.dom j x hx).2⟩, ?_, ?_, ?_⟩
        · intro j o hj
          simp only [T.get?_set] at hj
          by_cases hji : j = i
          · subst hji
            simp only [if_true, Option.some.injEq] at hj
            subst hj
            refine ⟨b, σ, κ, hp, ?_⟩
            intro fm2 hf2 hg2
            simp only [T.get?_set, if_true, Option.some.injEq] at hf2
            subst hf2
            refine ⟨hB, hs, hext, ?_, ?_, ?_⟩
            · intro c x a1 a2 hx
              simp only [T.get?_set] at hx
              by_cases hco : c = off
              · subst hco
                simp only [if_true, Option.some.injEq] at hx
                subst hx
                exact ⟨v', World.cell?_setCell_same _ _ _ hu, hv⟩
              · simp only [if_neg hco] at hx
                obtain ⟨y, hy, hr⟩ := h4 c x a1 a2 hx
                refine ⟨y, ?_, hr⟩
                rw [World.cell?_setCell_other]
                · exact hy
                · intro e; injection e; omega
            · intro c a1 a2
              obtain ⟨y, hy⟩ := h5 c a1 a2
              by_cases hco : c = off
              · subst hco; exact ⟨v', World.cell?_setCell_same _ _ _ hu⟩
              · exact ⟨y, (World.cell?_setCell_other _ _ _ _ (by intro e; injection e; omega)).trans hy⟩
            · intro c a0 a1 a2
              rw [World.frozen?_setCell]
              exact h6 c a0 a1 a2
          · simp only [if_neg hji] at hj
            obtain ⟨b2, σ2, κ2, hp2, hR2⟩ := H.obj j o hj
            refine ⟨b2, σ2, κ2, hp2, ?_⟩
            by_cases hlive : live (h.fams.set f { fm with gen := g + 1 }) o
            · obtain ⟨ol, onk⟩ := other j o hji hj hlive
              have hbb : b2 ≠ b := by
                rintro rfl
                exact onk (H.sep j i o _ _ _ _ _ _ hji hj ho ol hil hp2 hp).1
              have hR3 := hR2.same (heap_setCell_ne w ⟨b, off - σ, none⟩ v' b2 hbb)
              cases o with
              | var a n ro => exact hR3
              | map es => exact hR3
              | row f2 g2 lo2 hi2 sz2 cs2 =>
                have hff : f2 ≠ f := fun e => onk e
                intro fm2 hf2
                simp only [T.get?_set, if_neg hff] at hf2
                exact hR3 fm2 hf2
            · cases o with
              | var cs2 n2 ro2 =>
                have hro : ro2 = true := by cases ro2 <;> simp_all [live]
                obtain ⟨e1, e2, e3, e4, e5⟩ := hR2
                rcases e5 hro with hlt2 | hn0
                · exact ORel.same (o := .var cs2 n2 ro2) ⟨e1, e2, e3, e4, e5⟩ (heap_setCell_ne _ _ _ _ (by show b2 ≠ b; omega))
                · refine ⟨e1, e2, fun k x hk => by omega, fun e => (by rw [hro] at e; cases e), e5⟩
              | row f2 g2 lo2 hi2 sz2 cs2 => intro fm2 hf2 hg2; exact absurd ⟨fm2, hf2, hg2⟩ hlive
              | map es => exact absurd trivial hlive
        · intro j f2 g2 lo2 hi2 sz2 cs2 hj
          simp only [T.get?_set] at hj ⊢
          split at hj
          · simp only [Option.some.injEq] at hj
            cases hj
            exact ⟨(H.fam i _ _ _ _ _ _ ho).1, _, by rw [if_pos rfl], Nat.le_refl _⟩
          · obtain ⟨k1, fm2, k2, k3⟩ := H.fam j _ _ _ _ _ _ hj
            refine ⟨k1, ?_⟩
            by_cases hff : f2 = f
            · subst hff
              rw [hf] at k2; cases k2
              exact ⟨_, by rw [if_pos rfl], by show g2 ≤ g + 1; omega⟩
            · exact ⟨fm2, by rw [if_neg hff]; exact k2, k3⟩
        · intro j k oj ok b2 σ2 κ2 σ3 κ3 hjk hj hk lj lk pj pk
          simp only [T.get?_set] at hj hk
          by_cases hji : j = i
          · subst hji
            simp only [if_true, Option.some.injEq] at hj
            rw [if_neg (Ne.symm hjk)] at hk
            obtain ⟨ol, onk⟩ := other k ok (Ne.symm hjk) hk lk
            have := H.sep k j ok _ b2 _ _ _ _ (Ne.symm hjk) hk ho ol hil pk pj
            exact absurd this.1 onk
          · rw [if_neg hji] at hj
            obtain ⟨ol, onk⟩ := other j oj hji hj lj
            by_cases hki : k = i
            · subst hki
              have := H.sep j k oj _ b2 _ _ _ _ hjk hj ho ol hil pj pk
              exact absurd this.1 onk
            · rw [if_neg hki] at hk
              obtain ⟨ol2, onk2⟩ := other k ok hki hk lk
              exact H.sep j k oj ok b2 σ2 κ2 σ3 κ3 hjk hj hk ol ol2 pj pk
      · cases hw
    · cases hw
  · cases hw

end Go.Abs
