/- A deterministic heap for the model, proved sound, and walks of the program over it: part 3. No condition. -/
import Derived.Test.YtkbioibemcmanaaGreatDoorAb2
import Derived.Lib.Builder
import Derived.Lib.UnsafeStr
import Derived.Recover
import Derived.Scope
import Derived.KernelRfl
import Derived.Laws.Externs
import Derived.Lib.Bytealg
import Derived.Lib.MakeNoZero
import Derived.RangeFuncRecord
set_option linter.unusedVariables false
set_option linter.unusedSimpArgs false
set_option linter.unusedSectionVars false
section
/- The operations that make memory or turn it, held against the model's. -/
open Go.RowKit
namespace Go.Abs
variable {B0 : Zn} {w0 : World} {φ : Map} {h h' : AW} {w : World} {P : Program}
theorem rep_length (l : List Value) : ∀ n, (rep l n).length = n * l.length
  | 0 => by simp [rep]
  | n + 1 => by simp [rep, rep_length l n, Nat.add_mul]; omega
theorem rep_get (l : List Value) : ∀ (n i : Nat), i < n * l.length → (rep l n)[i]? = l[i % l.length]?
  | 0, i, h => by simp at h
  | n + 1, i, h => by
    simp only [rep]
    by_cases hi : i < l.length
    · rw [List.getElem?_append_left hi, Nat.mod_eq_of_lt hi]
    · have hle : l.length ≤ i := Nat.le_of_not_lt hi
      rw [List.getElem?_append_right hle, rep_get l n (i - l.length) (by rw [Nat.add_mul] at h; omega), Nat.mod_eq_sub_mod hle]
theorem rep_range (z : Array Value) (n : Nat) : (Array.range (n * z.size)).map (fun i => z[i % z.size]!) = ⟨rep z.toList n⟩ := by
  apply Array.ext'
  apply List.ext_getElem?
  intro i
  by_cases hi : i < n * z.size
  · have hpos : 0 < z.size := (Nat.eq_zero_or_pos z.size).elim (fun h => by rw [h] at hi; simp at hi) id
    have hm : i % z.size < z.size := Nat.mod_lt _ hpos
    have h2 := rep_get z.toList n i (by simpa using hi)
    simp only [Array.length_toList] at h2
    rw [h2]
    simp [hi, hm]
  · have h1 : (rep z.toList n)[i]? = none := List.getElem?_eq_none (by rw [rep_length]; simp; omega)
    rw [h1]
    simp; omega
theorem rep_flat {z : Value} (hz : flat z = true) (n : Nat) : LRel φ (rep z.cells.toList n) (rep z.cells.toList n) := by
  induction n with
  | zero => exact L2.nil
  | succ n ih => exact L2.append (flat_rel hz).cells ih
theorem wrap_nat {n : Nat} (h : n ≤ 9223372036854775807) : IntKind.i64.wrap (n : Int) = n := by
  have e1 : (2 : Int) ^ IntKind.i64.bits = 18446744073709551616 := by decide
  have e2 : (2 : Int) ^ (IntKind.i64.bits - 1) = 9223372036854775808 := by decide
  unfold IntKind.wrap
  rw [e1, e2]
  simp only [IntKind.signed, Bool.true_and, decide_eq_true_eq]
  have : (n : Int) % 18446744073709551616 = n := by omega
  rw [this, if_neg (by omega)]
theorem run_newVar' (t : TypeId) (v : Value) : (newVar t v).run P w = .ok ⟨w.heap.size, 0, none⟩ (w.alloc (.cells v.cells t)) := by
  simp [newVar, newRow]
def Out (B0 : Zn) (w0 : World) (φ : Map) (s : Sem Value) (P : Program) (w : World) (v : Value) (h' : AW) : Prop :=
  ∃ ψ v' w', s.run P w = .ok v' w' ∧ φ.le ψ ∧ VRel ψ v v' ∧ HRel B0 w0 ψ h' w'
theorem alloc_ok (H : HRel B0 w0 φ h w) {t : TypeId} {ti : TI} {z : Value} {i : Nat} (ht : tiOf P t = some ti) (hz : ti.zero = some z) (hn : h.newVar z.cells.toList = some (i, h')) :
    Out B0 w0 φ (Instr.alloc t true (.tuple #[])) P w (ptr i 0) (match selfT P t with | true => h'.tag i t | false => h') := by
  obtain ⟨it, hit, hut, _, _, _, hzz⟩ := tiOf_ok ht
  obtain ⟨hz1, hz2, hz3⟩ := hzz z hz
  obtain ⟨ψ, h1, h2, h3⟩ := H.newVar hn (flat_rel hz2).cells t
  have h4 : HRel B0 w0 ψ (match selfT P t with | true => h'.tag i t | false => h') (w.alloc (.cells ⟨z.cells.toList⟩ t)) := by
    split
    · exact h3.tag (h3.dom _ _ h2) (fun b σ κ e => by rw [h2] at e; cases e; exact ⟨_, _, heap_alloc_new _ _⟩)
    · exact h3
  refine ⟨ψ, .pointer (some ⟨w.heap.size, 0, none⟩), _, ?_, h1, VRel.ptr h2 (Nat.zero_le _), h4⟩
  simp only [Instr.alloc, Sem.run_bind, run_zeroValue' hit hz1, Result.andThen_ok, run_newVar', Sem.run_pure]
theorem box_ok (H : HRel B0 w0 φ h w) {t : TypeId} {x x' : Value} {i : Nat} (hx : VRel φ x x') (hn : h.newVar x.cells.toList = some (i, h')) :
    Out B0 w0 φ (Instr.box t x') P w (ptr i 0) h' := by
  obtain ⟨ψ, h1, h2, h3⟩ := H.newVar hn hx.cells t
  refine ⟨ψ, .pointer (some ⟨w.heap.size, 0, none⟩), _, ?_, h1, VRel.ptr h2 (Nat.zero_le _), h3⟩
  simp only [Instr.box, Sem.run_bind, Result.andThen_ok, run_newVar', Sem.run_pure]
theorem buildSlice_run {t : TypeId} {len : Nat} {ps : List (Nat × Value)} {ps' : Array (Nat × Value)} {v : Value} (hp : L2 (fun (p q : Nat × Value) => p.1 = q.1 ∧ VRel φ p.2 q.2) ps ps'.toList)
    (hr : buildSliceV P h t len ps = some (v, h')) :
    ∃ i cells cells' e, h.newVar cells = some (i, h') ∧ LRel φ cells cells' ∧ (∀ (ψ : Map) b, ψ i = some (b, 0, 0) → VRel ψ v (.slice (some ⟨b, 0, none⟩) len (len + 0))) ∧
      ∀ w, (Instr.buildSlice t len ps').run P w = .ok (.slice (some ⟨w.heap.size, 0, none⟩) len (len + 0)) (w.alloc (.cells ⟨cells'⟩ e)) := by
  unfold buildSliceV at hr
  split at hr
  · rename_i ti ht
    obtain ⟨it, hit, hut, -⟩ := tiOf_ok ht
    split at hr
    · rename_i elem hd
      rw [hd] at hut
      split at hr
      · rename_i te hte
        obtain ⟨ie, hie, hue, _, hsz, _, hz⟩ := tiOf_ok hte
        split at hr
        · rename_i z hzz hble
          obtain ⟨hz1, hz2, hz3⟩ := hz z hzz
          split at hr
          · rename_i hbz
            split at hr
            · rename_i cs hcs
              split at hr
              · rename_i i h2 hn
                simp only [Option.some.injEq, Prod.mk.injEq] at hr
                obtain ⟨rfl, rfl⟩ := hr
                obtain ⟨r', hf, hrel⟩ := fill_rel _ _ _ _ _ hp (rep_flat hz2 len) hcs
                refine ⟨i, _, r'.toList, elem, hn, hrel, fun ψ b hb => VRel.slice hb (Nat.zero_le _) (.inl rfl), fun w => ?_⟩
                have hle := ble_true hble
                have hfill : Instr.fill (fun i => some (i * ie.size, ie.size)) ((Array.range (len * ie.size)).map ((if len * ie.size = 0 then #[] else z.cells)[· % (if len * ie.size = 0 then #[] else z.cells).size]!)) ps'.toList = some r' := by
                  rw [← hsz]
                  by_cases h0 : len * te.size = 0
                  · simp only [h0, if_true]
                    have : rep z.cells.toList len = [] := List.eq_nil_of_length_eq_zero (by rw [rep_length]; simp [hz3, h0])
                    rw [this] at hf
                    have e : (Array.map (fun x => (#[] : Array Value)[x % (#[] : Array Value).size]!) (Array.range 0)) = ⟨[]⟩ := by simp
                    rw [e]; exact hf
                  · simp only [h0, if_false]
                    have e := rep_range z.cells len
                    rw [hz3] at e
                    rw [hz3, e]
                    exact hf
                simp only [Instr.buildSlice, Sem.run_bind, run_underlying hut, Result.andThen_ok, run_sizeOf' hie, ← hsz]
                rw [if_neg (by omega)]
                rw [← hsz] at hfill
                by_cases h0 : len * te.size = 0
                · simp only [h0, if_true] at hfill ⊢
                  simp only [Sem.run_bind, Sem.run_pure, Result.andThen_ok]
                  rw [hfill]
                  simp [newRow]
                · simp only [h0, if_false] at hfill ⊢
                  simp only [Sem.run_bind, run_zeroValue' hie hz1, Sem.run_pure, Result.andThen_ok]
                  rw [hfill]
                  simp [newRow]
              · cases hr
            · cases hr
          · cases hr
        · cases hr
      · cases hr
    · cases hr
  · cases hr
theorem buildSlice_ok (H : HRel B0 w0 φ h w) {t : TypeId} {len : Nat} {ps : List (Nat × Value)} {ps' : Array (Nat × Value)} {v : Value} (hp : L2 (fun (p q : Nat × Value) => p.1 = q.1 ∧ VRel φ p.2 q.2) ps ps'.toList)
    (hr : buildSliceV P h t len ps = some (v, h')) : Out B0 w0 φ (Instr.buildSlice t len ps') P w v h' := by
  obtain ⟨i, cells, cells', e, hn, hl, hv, hrun⟩ := buildSlice_run (P := P) hp hr
  obtain ⟨ψ, h1, h2, h3⟩ := H.newVar hn hl e
  exact ⟨ψ, _, _, hrun w, h1, hv ψ _ h2, h3⟩
theorem ofBytes_rel (l : List UInt8) : LRel φ (ofBytes l) (ofBytes l) := by
  induction l with
  | nil => exact L2.nil
  | cons b l ih => exact L2.cons (.int _ _) ih
theorem appendCap_ge {need old : Nat} {e : TypeId} {t : Nat} : need ≤ (Question.appendCap need old e).cut t := by simp [Question.cut]
theorem run_markStringish (w : World) (b n : Nat) : (markStringish ⟨b, 0, none⟩).run P w = .ok () (match w.shape? b with | some (_, n) => w.freeze ⟨b, n, none⟩ 1 | none => w) := by
  unfold markStringish
  simp only [Sem.run_bind, run_shape, Result.andThen_ok]
  cases w.shape? b with
  | none => rfl
  | some p => rfl
theorem run_markStringish' (w : World) (b o : Nat) : (markStringish ⟨b, o, none⟩).run P w = .ok () (match w.shape? b with | some (_, n) => w.freeze ⟨b, n, none⟩ 1 | none => w) := by
  unfold markStringish
  simp only [Sem.run_bind, run_shape, Result.andThen_ok]
  cases w.shape? b with
  | none => rfl
  | some p => rfl
theorem HRel.mark {b : Nat} {c : Array Value} {e : TypeId} (H : HRel B0 w0 φ h w) (hb : w.heap[b]? = some (.cells c e (0, 0))) (hB : ¬ B0.Z b) : HRel B0 w0 φ h (w.freeze ⟨b, c.size, none⟩ 1) := by
  have hblk : (w.freeze ⟨b, c.size, none⟩ 1).heap[b]? = some (.cells c e (c.size, c.size + 1)) := by
    simp only [World.freeze]
    rw [if_neg (by omega)]
    simp only [Array.getElem?_modify, if_true, hb, Option.map_some]
    rfl
  have hother : ∀ k, k ≠ b → (w.freeze ⟨b, c.size, none⟩ 1).heap[k]? = w.heap[k]? := by
    intro k hk
    simp only [World.freeze]
    rw [if_neg (by omega)]
    simp only [Array.getElem?_modify]
    rw [if_neg (fun e => hk e.symm)]
  have hcell : ∀ a : Addr, (w.freeze ⟨b, c.size, none⟩ 1).cell? a = w.cell? a := by
    intro a
    by_cases hab : a.block = b
    · simp only [World.cell?, hab, hblk, hb]
    · simp only [World.cell?, hother _ hab]
  have hfr : ∀ k : Nat, k < c.size → (w.freeze ⟨b, c.size, none⟩ 1).frozen? ⟨b, k, none⟩ = false := by
    intro k hk
    simp only [World.frozen?, hblk]
    simp
    omega
  have hhd : ∀ k : Nat, k < c.size → hard (w.freeze ⟨b, c.size, none⟩ 1) b k = false := by
    intro k hk
    unfold hard
    rw [hblk]
    simp
    omega
  have hsz : (w.freeze ⟨b, c.size, none⟩ 1).heap.size = w.heap.size := by
    simp only [World.freeze]; rw [if_neg (by omega)]; simp
  have hin : ∀ k u, w.cell? ⟨b, k, none⟩ = some u → k < c.size := by
    intro k u hu
    simp only [World.cell?, hb] at hu
    simp at hu
    exact (Array.getElem?_eq_some_iff.1 hu).1
  refine ⟨H.base, BelowZ.growTo H.below (by simp [World.freeze]) (by simp [World.freeze]) (by simp [World.freeze]) (by rw [hsz]; exact Nat.le_refl _) (fun k hk => hother k (fun e => hB (e ▸ hk))), H.dom, fun i o x ho hx => by rw [hsz]; exact H.lto i o x ho hx, ?_, H.fam, H.sep, H.ty.same (Cast.freeze _ _ _) rfl (Nat.le_refl _)⟩
  intro i o ho
  obtain ⟨b2, σ, κ, hp, hR⟩ := H.obj i o ho
  refine ⟨b2, σ, κ, hp, ?_⟩
  by_cases hbb : b2 = b
  · subst hbb
    cases o with
    | var cs n ro =>
      obtain ⟨e1, e2, e3, e4, e5⟩ := hR
      refine ⟨e1, e2, fun off v a1 a2 => by rw [hcell]; exact e3 off v a1 a2, fun hro => ?_, e5⟩
      obtain ⟨q1, q2⟩ := e4 hro
      refine ⟨q1, fun off hoff => ?_⟩
      obtain ⟨⟨u, hu⟩, hf⟩ := q2 off hoff
      exact ⟨⟨u, by rw [hcell]; exact hu⟩, hhd off (hin off u hu)⟩
    | row f g lo hi sz cs =>
      intro fm hf hg
      obtain ⟨q1, q2, q3, q4, q5, q6⟩ := hR fm hf hg
      refine ⟨q1, q2, q3, fun c v a1 a2 a3 => by rw [hcell]; exact q4 c v a1 a2 a3, fun c a1 a2 => by rw [hcell]; exact q5 c a1 a2, fun c a0 a1 a2 => ?_⟩
      obtain ⟨u, hu⟩ := q5 c a1 a2
      exact hfr _ (hin _ u hu)
    | map es =>
      obtain ⟨e1, e2, e3, ents, clock, hm, _⟩ := hR
      rw [hb] at hm; cases hm
  · exact hR.same (hother b2 hbb)
theorem HRel.mark2 {i b σ κ : Nat} {cs : T Value} {n : Nat} {c : Array Value} {e : TypeId} {fz : Nat × Nat} (H : HRel B0 w0 φ h w) (hi : h.objs.get? i = some (.var cs n false)) (hp : φ i = some (b, σ, κ)) (hb : w.heap[b]? = some (.cells c e fz)) : HRel B0 w0 φ h (w.freeze ⟨b, c.size, none⟩ 1) := by
  obtain ⟨b', σ', κ', hp', hR⟩ := H.obj i _ hi
  rw [hp] at hp'; cases hp'
  obtain ⟨rfl, rfl, h3, h4, h5⟩ := hR
  obtain ⟨hB, hcl⟩ := h4 rfl
  have hblk : (w.freeze ⟨b, c.size, none⟩ 1).heap[b]? = some (.cells c e (if fz.1 == fz.2 then (c.size, c.size + 1) else (min fz.1 c.size, max fz.2 (c.size + 1)))) := by
    simp only [World.freeze]
    rw [if_neg (by omega)]
    simp only [Array.getElem?_modify, if_true, hb, Option.map_some]
  have hother : ∀ k, k ≠ b → (w.freeze ⟨b, c.size, none⟩ 1).heap[k]? = w.heap[k]? := fun k hk => heap_freeze_ne w _ 1 hk
  have hcell : ∀ a : Addr, (w.freeze ⟨b, c.size, none⟩ 1).cell? a = w.cell? a := by
    intro a
    by_cases hab : a.block = b
    · simp only [World.cell?, hab, hblk, hb]
    · simp only [World.cell?, hother _ hab]
  have hsz := size_freeze w ⟨b, c.size, none⟩ 1
  have hin : ∀ k u, w.cell? ⟨b, k, none⟩ = some u → k < c.size := by
    intro k u hu
    simp only [World.cell?, hb] at hu
    simp at hu
    exact (Array.getElem?_eq_some_iff.1 hu).1
  have hhd : ∀ k : Nat, k < n → hard (w.freeze ⟨b, c.size, none⟩ 1) b k = false := by
    intro k hk
    obtain ⟨⟨u, hu⟩, hf⟩ := hcl k hk
    have hks := hin k u hu
    have hlo : fz.1 < n → hard w b fz.1 = false := fun h => (hcl _ h).2
    unfold hard at hf hlo ⊢
    rw [hb] at hf hlo
    rw [hblk]
    obtain ⟨lo, hi⟩ := fz
    simp only [Bool.or_eq_false_iff, Bool.and_eq_false_iff, decide_eq_false_iff_not, Nat.not_lt, Nat.not_le] at hf hlo
    by_cases he : lo = hi
    · subst he
      simp
      omega
    · have : (lo == hi) = false := beq_eq_false_iff_ne.2 he
      simp only [this, Bool.false_eq_true, if_false, Bool.or_eq_false_iff, Bool.and_eq_false_iff, decide_eq_false_iff_not, Nat.not_lt, Nat.not_le]
      by_cases hl : lo < n
      · have := hlo hl
        omega
      · omega
  refine ⟨H.base, BelowZ.growTo H.below (by simp [World.freeze]) (by simp [World.freeze]) (by simp [World.freeze]) (by rw [hsz]; exact Nat.le_refl _) (fun k hk => hother k (fun e => hB (e ▸ hk))), H.dom, fun i o x ho hx => by rw [hsz]; exact H.lto i o x ho hx, ?_, H.fam, H.sep, H.ty.same (Cast.freeze _ _ _) rfl (Nat.le_refl _)⟩
  intro j o ho
  obtain ⟨b2, σ2, κ2, hp2, hR2⟩ := H.obj j o ho
  refine ⟨b2, σ2, κ2, hp2, ?_⟩
  by_cases hji : j = i
  · subst hji
    rw [hi] at ho; cases ho
    rw [hp] at hp2; cases hp2
    exact ⟨rfl, rfl, fun off v a1 a2 => by rw [hcell]; exact h3 off v a1 a2, fun _ => ⟨hB, fun off hoff => ⟨by rw [hcell]; exact (hcl off hoff).1, hhd off hoff⟩⟩, fun e => by cases e⟩
  · by_cases hlive : live h.fams o
    · by_cases hbb : b2 = b
      · subst hbb
        have := (H.sep j i o _ _ _ _ _ _ hji ho hi hlive rfl hp2 hp).1
        cases o <;> exact this.elim
      · exact hR2.same (hother _ hbb)
    · cases o with
      | var cs2 n2 ro2 =>
        have hro : ro2 = true := by cases ro2 <;> simp_all [live]
        obtain ⟨e1, e2, e3, e4, e5⟩ := hR2
        rcases e5 hro with hlt2 | hn0
        · exact ORel.same (o := .var cs2 n2 ro2) ⟨e1, e2, e3, e4, e5⟩ (hother _ (fun e => hB (e ▸ B0.sub _ hlt2)))
        · exact ⟨e1, e2, fun k x hk => by omega, fun e => (by rw [hro] at e; cases e), e5⟩
      | row f g lo hi sz cs2 => intro fm hf hg; exact absurd ⟨fm, hf, hg⟩ hlive
      | map es => exact absurd trivial hlive
theorem lies_self {e : TypeId} {k : Nat} (hc : P.cellsOf e ≠ 0) (hk : 1 ≤ k) : liesAt P P.depth e k 0 e 1 = true := by
  obtain ⟨d, hd⟩ : ∃ d, P.depth = d + 1 := ⟨_, rfl⟩
  have hs : sameLayout P P.depth e e = true := by rw [hd, sameLayout]; simp
  have hr : ∀ D fits, fits e = true → rowAt P fits (D + 1) e k 0 1 = true := fun D fits hf => by
    rw [rowAt]
    simp [hc, hk, hf]
  have : liesAt P (d + 1) e k 0 e 1 = true := by
    rw [liesAt, hd, hr d _ (by rw [← hd]; exact hs)]
    rfl
  rw [← hd] at this
  exact this
theorem shape_of {b off : Nat} {v : Value} (h : w.cell? ⟨b, off, none⟩ = some v) : ∃ c e fz, w.heap[b]? = some (.cells c e fz) ∧ w.shape? b = some (e, c.size) ∧ off < c.size := by
  unfold World.cell? at h
  split at h
  · rename_i c e fz hb
    simp only [Option.isSome_none, Bool.false_eq_true, if_false] at h
    exact ⟨c, e, fz, hb, by simp only [World.shape?]; rw [show w.heap[b]? = _ from hb], (Array.getElem?_eq_some_iff.1 h).1⟩
  · cases h
theorem convA_ok (H : HRel B0 w0 φ h w) {src dst : TypeId} {x x' v : Value} (hx : VRel φ x x') (hr : convA P h src dst x = some (v, h')) : Out B0 w0 φ (convert src dst x') P w v h' := by
  unfold convA at hr
  split at hr
  · rename_i s d hs hd
    obtain ⟨is, his, hus, -⟩ := tiOf_ok hs
    obtain ⟨id, hid, hud, -⟩ := tiOf_ok hd
    split at hr
    · rename_i i off hdu
      rw [hdu] at hud
      split at hr
      · rename_i t hsu
        rw [hsu] at hus
        split at hr
        · rename_i te u hte hrd
          obtain ⟨ie, hie, _, _, hsz, _⟩ := tiOf_ok hte
          split at hr
          · rename_i hz
            simp only [Option.some.injEq, Prod.mk.injEq] at hr
            obtain ⟨rfl, rfl⟩ := hr
            cases hx with
            | ptr hp hσ =>
              obtain ⟨_, u', hc, _⟩ := H.rd hrd hp
              obtain ⟨c, e, fz, _, hsh, hlt⟩ := shape_of hc
              exact ⟨φ, _, w, Lib.run_to_unsafe (P := P) w _ hus hud hie (by
                intro e0
                rw [← hsz] at e0
                rw [e0] at hz
                cases hz) hsh hlt, φ.le_refl, VRel.ptr hp hσ, H⟩
          · cases hr
        · cases hr
      · cases hr
    · rename_i u i off hdu
      rw [hdu] at hud
      split at hr
      · rename_i hsu
        rw [hsu] at hus
        split at hr
        · rename_i t te hty hte
          obtain ⟨ie, hie, _, _, hsz, _⟩ := tiOf_ok hte
          split at hr
          · rename_i v0 hz hrd
            simp only [Bool.and_eq_true] at hz
            obtain ⟨⟨z1, z2⟩, z3⟩ := hz
            have z1 := beq_true z1
            have z2 := beq_true z2
            have z3 := ble_true z3
            subst z1
            subst z2
            simp only [Option.some.injEq, Prod.mk.injEq] at hr
            obtain ⟨rfl, rfl⟩ := hr
            cases hx with
            | ptr hp hσ =>
              rename_i b σ κ
              have hσ0 : σ = 0 := by omega
              subst hσ0
              obtain ⟨_, u', hc, _⟩ := H.rd hrd hp
              obtain ⟨c, e, fz, hb, hsh, hlt⟩ := shape_of hc
              obtain ⟨_, hblk⟩ := H.ty.1 i t hty
              obtain ⟨c2, fz2, hb2⟩ := hblk b 0 κ hp
              rw [hb] at hb2
              cases hb2
              have hce : P.cellsOf t = te.size := by unfold Program.cellsOf; rw [hie]; simp [hsz]
              refine ⟨φ, _, w, Lib.run_from_unsafe (P := P) w _ hus hud hie hsh (lies_self (by omega) ?_), φ.le_refl, VRel.ptr hp hσ, H⟩
              rw [hce]
              exact (Nat.le_div_iff_mul_le (by omega)).2 (by omega)
          · cases hr
        · cases hr
      · cases hr
    · rename_i e b hdu
      cases hx.string_inv
      rw [hdu] at hud
      split at hr
      · rename_i te hte
        obtain ⟨ie, hie, hue, -⟩ := tiOf_ok hte
        split at hr
        · rename_i heu
          rw [heu] at hue
          split at hr
          · rename_i i h2 hn
            simp only [Option.some.injEq, Prod.mk.injEq] at hr
            obtain ⟨rfl, rfl⟩ := hr
            let cap := (Question.appendCap b.size 0 e).cut (w.tape w.drawn (.appendCap b.size 0 e))
            have hcap : b.size ≤ cap := appendCap_ge
            obtain ⟨ψ, h1, h2', h3⟩ := H.drew.newRow hn (ofBytes_rel b.data.toList) (rest := List.replicate (cap - b.size) (.int .u8 0)) e (cap - b.size) (by simp)
            have hblk : (w.drew.alloc (.cells ⟨ofBytes b.data.toList ++ List.replicate (cap - b.size) (.int .u8 0)⟩ e)).heap[w.drew.heap.size]? = some (.cells ⟨ofBytes b.data.toList ++ List.replicate (cap - b.size) (.int .u8 0)⟩ e (0, 0)) := Go.heap_alloc_new w.drew _
            have h4 := h3.mark hblk (H.newZ)
            refine ⟨ψ, .slice (some ⟨w.heap.size, 0, none⟩) b.size cap, _, ?_, h1, ?_, h4⟩
            · have hcells : (b.data.map (fun b => Value.int .u8 (b.toNat : Int)) ++ Array.replicate (cap - b.size) (Value.int .u8 0)) = (⟨ofBytes b.data.toList ++ List.replicate (cap - b.size) (.int .u8 0)⟩ : Array Value) := by
                apply Array.ext'
                simp [ofBytes]
              simp only [convert, Sem.run_bind, run_underlying hus, run_underlying hud, Result.andThen_ok, run_underlying hue, Conv.stringToBytes, run_choose, Question.forced, Bool.false_eq_true, if_false, newRow, run_newObj, Sem.run_pure]
              rw [show (Question.appendCap b.size 0 e).cut (w.tape w.drawn (.appendCap b.size 0 e)) = cap from rfl, hcells]
              rw [run_markStringish _ w.heap.size 0]
              have hsh : (w.drew.alloc (.cells ⟨ofBytes b.data.toList ++ List.replicate (cap - b.size) (.int .u8 0)⟩ e)).shape? w.heap.size = some (e, (⟨ofBytes b.data.toList ++ List.replicate (cap - b.size) (Value.int .u8 0)⟩ : Array Value).size) := by
                have : w.heap.size = w.drew.heap.size := rfl
                rw [this]
                simp only [World.shape?, hblk]
              show (Result.ok () (match (w.drew.alloc (.cells ⟨ofBytes b.data.toList ++ List.replicate (cap - b.size) (.int .u8 0)⟩ e)).shape? w.heap.size with
                | some (_, n) => (w.drew.alloc (.cells ⟨ofBytes b.data.toList ++ List.replicate (cap - b.size) (.int .u8 0)⟩ e)).freeze ⟨w.heap.size, n, none⟩ 1
                | none => w.drew.alloc (.cells ⟨ofBytes b.data.toList ++ List.replicate (cap - b.size) (.int .u8 0)⟩ e))).andThen _ = _
              rw [hsh]
              rfl
            · have := VRel.slice (φ := ψ) (len := b.size) (cap := b.size) h2' (Nat.zero_le 0) (.inl (by rfl))
              rw [show b.size + (cap - b.size) = cap from by omega] at this
              exact this
          · cases hr
        · cases hr
      · cases hr
    · rename_i e i off len cap hdu
      obtain ⟨_, b, σ, κ, a', hp, hσ, ho, rfl⟩ := hx.slice_inv
      rw [hdu] at hud
      split at hr
      · rename_i e' cs n hsu hsd hob
        rw [hsu] at hus
        rw [Bool.and_eq_true] at hsd
        obtain ⟨hsd, hl1⟩ := hsd
        have hl1 := Nat.le_of_ble_eq_true hl1
        have hsd := Nat.eq_of_beq_eq_true hsd
        subst hsd
        have ha : a' = ⟨b, off - σ, none⟩ := ho.elim (fun x => x) fun x => by omega
        subst ha
        rw [hs] at hd; cases hd
        rw [hdu] at hsu; cases hsu
        split at hr
        · rename_i te hte
          obtain ⟨ie, hie, hue, -⟩ := tiOf_ok hte
          split at hr
          · rename_i heu
            rw [heu] at hue
            simp only [Option.some.injEq, Prod.mk.injEq] at hr
            obtain ⟨rfl, rfl⟩ := hr
            refine ⟨φ, .slice (some ⟨b, off - σ, none⟩) len (cap + κ), (match w.shape? b with | some (_, n) => w.freeze ⟨b, n, none⟩ 1 | none => w), ?_, φ.le_refl, VRel.slice hp hσ (.inl rfl), ?_⟩
            · simp only [convert, Sem.run_bind, run_underlying hus, run_underlying hud, Result.andThen_ok, run_underlying hue, beq_self_eq_true, run_markStringish', Sem.run_pure]
            · simp only [World.shape?]
              cases hb : w.heap[b]? with
              | none => exact H
              | some o =>
                cases o with
                | cells c t fz => exact H.mark2 hob hp hb
                | _ => exact H
          · cases hr
        · cases hr
      · cases hr
    · cases hr
  · cases hr
end Go.Abs
end

section
/- make, copy, append, the maps' operations: held against the model's. -/
open Go.RowKit
namespace Go.Abs
variable {B0 : Zn} {w0 : World} {φ : Map} {h h' : AW} {w : World} {P : Program}
theorem run_checkKeyN {kt : TypeId} {d : TypeDesc} (hd : P.underlying kt = some d) (hk : keyKind d = true) (e : Bool) (n : Nat) (hn : n ≠ 0) (k : Value) : (Instr.checkKey e n kt k).run P w = .ok () w := by
  obtain ⟨m, rfl⟩ := Nat.exists_eq_succ_of_ne_zero hn
  exact run_checkKey' hd hk e m k
theorem makeSlice_ok (H : HRel B0 w0 φ h w) {t : TypeId} {l l' c c' v : Value} (hl : VRel φ l l') (hc : VRel φ c c') (hr : makeSliceV P h t l c = some (v, h')) : Out B0 w0 φ (Instr.makeSlice t l' c') P w v h' := by
  unfold makeSliceV at hr
  split at hr
  · rename_i ti kl nl kc nc ht
    obtain ⟨it, hit, hut, -⟩ := tiOf_ok ht
    cases hl.int_inv; cases hc.int_inv
    split at hr
    · rename_i elem hd
      rw [hd] at hut
      split at hr
      · rename_i te hte
        obtain ⟨ie, hie, hue, _, hsz, hby, hz⟩ := tiOf_ok hte
        split at hr
        · rename_i z hzz hb
          obtain ⟨hz1, hz2, hz3⟩ := hz z hzz
          simp only [Bool.and_eq_true] at hb
          have b1 := ble_true hb.1.1
          have b2 := ble_true hb.1.2
          have b3 := ble_true hb.2
          split at hr
          · split at hr
            · rename_i i h2 hn
              simp only [Option.some.injEq, Prod.mk.injEq] at hr
              obtain ⟨rfl, rfl⟩ := hr
              obtain ⟨ψ, h1, h2', h3⟩ := H.newVar hn (rep_flat hz2 nc) elem
              refine ⟨ψ, .slice (some ⟨w.heap.size, 0, none⟩) nl (nc + 0), _, ?_, h1, VRel.slice h2' (Nat.zero_le _) (.inl rfl), h3.tag (h3.dom _ _ h2') (fun b σ κ e => by rw [h2'] at e; cases e; exact ⟨_, _, heap_alloc_new _ _⟩)⟩
              have w1 := wrap_nat (n := nl) (by omega)
              have w2 := wrap_nat (n := nc) b3
              have hmul : (ie.bytes : Int) * (nc : Int) ≤ 281474976710656 := by
                have : ie.bytes * nc ≤ 140737488355328 := by rw [Nat.mul_comm, ← hby]; exact b2
                have h2 : ((ie.bytes * nc : Nat) : Int) ≤ 140737488355328 := by omega
                rw [Int.natCast_mul] at h2
                omega
              have hmul' : (ie.bytes : Int) * (nc : Int) ≤ 2 ^ 48 := by
                rw [show (2 : Int) ^ 48 = 281474976710656 by decide]; exact hmul
              have tl : ¬ ((nc : Int) < 0) := by omega
              have l0 : ¬ ((nl : Int) < 0) := by omega
              have l1 : ¬ ((nl : Int) > (nc : Int)) := by omega
              have hng : ¬ ((ie.bytes : Int) * (nc : Int) > 2 ^ 48) := by omega
              have cond : (((decide ((nc : Int) < 0) || decide ((ie.bytes : Int) * (nc : Int) > 2 ^ 48)) || decide ((nl : Int) < 0)) || decide ((nl : Int) > (nc : Int))) = false := by
                rw [decide_eq_false tl, decide_eq_false hng, decide_eq_false l0, decide_eq_false l1]; rfl
              have hrep : nc * te.size = 0 → rep z.cells.toList nc = [] := fun h0 => List.eq_nil_of_length_eq_zero (by rw [rep_length]; simp [hz3, h0])
              simp only [Instr.makeSlice, asInt, asIntOf, Sem.run_bind, run_underlying hut, Result.andThen_ok, Sem.run_pure, run_typeInfo' hie, Int.ofNat_eq_natCast, w1, w2]
              rw [cond]
              simp only [Bool.false_eq_true, if_false, Sem.run_bind, run_askRoom, Result.andThen_ok, Int.toNat_natCast, run_sizeOf' hie, ← hsz]
              by_cases h0 : nc * te.size = 0
              · have e0 : (Array.map (fun x => (#[] : Array Value)[x % (#[] : Array Value).size]!) (Array.range 0)) = ⟨[]⟩ := by simp
                rw [if_pos h0, hrep h0, h0]
                simp only [Sem.run_bind, Sem.run_pure, Result.andThen_ok, e0, newRow, run_newObj]
                rfl
              · rw [if_neg h0]
                have e := rep_range z.cells nc
                rw [hz3] at e
                simp only [Sem.run_bind, run_zeroValue' hie hz1, Result.andThen_ok, Sem.run_pure, hz3, e, newRow, run_newObj]
                simp
            · cases hr
          · cases hr
        · cases hr
      · cases hr
    · cases hr
  · cases hr
theorem sliceA_ok (H : HRel B0 w0 φ h w) {t : TypeId} {x x' m m' v : Value} {lo lo' hi hi' : Option Value} (hx : VRel φ x x') (hlo : ORelV φ lo lo') (hhi : ORelV φ hi hi') (hm : VRel φ m m') (hr : sliceA P h t x lo hi m = some (v, h')) :
    Out B0 w0 φ (Instr.sliceAt t x' lo' hi' (some m')) P w v h' := by
  unfold sliceA at hr
  split at hr
  · rename_i ti ht
    obtain ⟨it, hit, hut, -⟩ := tiOf_ok ht
    split at hr
    · rename_i elem a len cap hi1 hd
      rw [hd] at hut
      cases hi' with
      | none => exact hhi.elim
      | some hi2 =>
      split at hr
      · rename_i mm hmm
        split at hr
        · rename_i u hu
          split at hr
          · rename_i l hl
            split at hr
            · rename_i hml
              have hml := beq_true hml
              subst hml
              obtain ⟨km, rfl, hmle⟩ := bnd_ok hm hmm
              obtain ⟨ku, rfl, hule⟩ := bnd_ok hhi hu
              have hlu : mm ≤ u := by
                cases lo with
                | none => simp only [bndO, Option.some.injEq] at hl; omega
                | some y => cases lo' with
                  | none => exact hlo.elim
                  | some y' => exact (bnd_ok hlo hl).choose_spec.2
              have hu' : u = mm := by omega
              subst hu'
              have bounds : ∀ cap', cap ≤ cap' → (Instr.sliceBounds true len cap' lo' (some (.int ku (u : Int))) (some (.int km (u : Int)))).run P w = .ok (u, u, u) w := by
                intro cap' hc
                have r1 := fun c => run_sliceBound (P := P) w km (u : Int) cap' c (by omega) (by omega)
                have r2 := fun c => run_sliceBound (P := P) w ku (u : Int) u c (by omega) (by omega)
                cases lo with
                | none =>
                  simp only [bndO, Option.some.injEq] at hl
                  cases lo' with
                  | some _ => exact hlo.elim
                  | none =>
                    rw [show (u, u, u) = (0, u, u) from by rw [← hl]]
                    simp [Instr.sliceBounds, r1, r2]
                | some y => cases lo' with
                  | none => exact hlo.elim
                  | some y' =>
                    obtain ⟨ky, rfl, _⟩ := bnd_ok hlo hl
                    have r3 := fun c => run_sliceBound (P := P) w ky (u : Int) u c (by omega) (by omega)
                    simp [Instr.sliceBounds, r1, r2, r3]
              split at hr
              · cases hr
              rename_i te hte
              obtain ⟨ie, hie', -⟩ := tiOf_ok hte
              split at hr
              · rename_i bi off
                simp only [Option.some.injEq, Prod.mk.injEq] at hr
                obtain ⟨rfl, rfl⟩ := hr
                obtain ⟨_, b, σ, κ, a', hp, hσ, ho, rfl⟩ := hx.slice_inv
                obtain ⟨ψ, h1, h2, h3⟩ := H.newNone b
                refine ⟨ψ, .slice (some a') 0 (0 + 0), w, ?_, h1, VRel.slice h2 (Nat.zero_le _) (.inr ⟨rfl, rfl⟩), h3⟩
                simp only [Instr.sliceAt, Instr.slice, Sem.run_bind, run_underlying hut, Result.andThen_ok, bounds (cap + κ) (by omega), run_sizeOf' hie', Sem.run_pure, if_true, Nat.sub_self]
              · cases hr
              · simp only [Option.some.injEq, Prod.mk.injEq] at hr
                obtain ⟨rfl, rfl⟩ := hr
                cases hx.sliceN_inv
                refine ⟨φ, .slice none 0 0, w, ?_, φ.le_refl, .sliceN _ _, H⟩
                simp only [Instr.sliceAt, Instr.slice, Sem.run_bind, run_underlying hut, Result.andThen_ok, bounds cap (Nat.le_refl _), run_sizeOf' hie', Sem.run_pure, if_true, Nat.sub_self]
            · cases hr
          · cases hr
        · cases hr
      · cases hr
    · cases hr
  · cases hr
theorem same_eq {d : TypeDesc} {a b : Value} (h : Instr.sameNow d a b = some true) : a = b := by
  unfold Instr.sameNow at h
  split at h
  · split at h
    · rename_i hk; subst hk
      simp only [Option.some.injEq, beq_iff_eq] at h; subst h; rfl
    · cases h
  · simp only [Option.some.injEq] at h
    rw [(MapKept.bytes_beq _ _).1 h]
  · simp only [Option.some.injEq, beq_iff_eq] at h; subst h; rfl
  · cases h
theorem same_self {d : TypeDesc} {a : Value} : Instr.sameNow d a a ≠ some false := by
  cases d <;> cases a <;> simp only [Instr.sameNow] <;> first | (rw [(MapKept.bytes_beq _ _).2 rfl]; simp) | simp | (split <;> simp)
theorem find_none_ne {d : TypeDesc} {k : Value} : ∀ (l : List MapEntry) (i : Nat), Instr.findNow d k l i = some none → ∀ x ∈ l, x.key ≠ k
  | [], _, _ => by simp
  | e :: l, i, h => by
    unfold Instr.findNow at h
    split at h
    · cases h
    · rename_i hs
      intro x hx
      rcases List.mem_cons.1 hx with rfl | hx
      · intro e; rw [e] at hs; exact same_self hs
      · exact find_none_ne l (i + 1) h x hx
    · cases h
theorem upd_ok {d : TypeDesc} {k k' v v' : Value} (hk : VRel φ k k') (hv : VRel φ v v') : ∀ {es r : List (Value × Value)} {es' : List MapEntry} (i : Nat), L2 (fun (p : Value × Value) (e : MapEntry) => VRel φ p.1 e.key ∧ VRel φ p.2 e.val) es es' → upd d k v es = some r →
    (Instr.findNow d k' es' i = some none ∧ r = es ++ [(k, v)]) ∨
    ∃ j e, Instr.findNow d k' es' i = some (some (i + j, e.val)) ∧ es'[j]? = some e ∧ Instr.sameNow d k' e.key = some true ∧ r = es.set j (k, v)
  | [], r, es', i, hl, hr => by
    cases hl.nil_left
    simp only [upd, Option.some.injEq] at hr; subst hr
    exact .inl ⟨rfl, rfl⟩
  | (q, x) :: es, r, es', i, hl, hr => by
    obtain ⟨e, t, rfl, ⟨h1, h2⟩, h3⟩ := hl.cons_left
    simp only [upd] at hr
    split at hr
    · rename_i hs
      simp only [Option.some.injEq] at hr; subst hr
      have hs' := sameNow_rel hk h1 hs
      exact .inr ⟨0, e, by simp [Instr.findNow, hs'], rfl, hs', rfl⟩
    · rename_i hs
      have hs' := sameNow_rel hk h1 hs
      split at hr
      · rename_i r2 hr2
        simp only [Option.some.injEq] at hr; subst hr
        rcases upd_ok hk hv (i + 1) h3 hr2 with ⟨a, rfl⟩ | ⟨j, e2, a, b, c, rfl⟩
        · exact .inl ⟨by simp [Instr.findNow, hs', a], rfl⟩
        · exact .inr ⟨j + 1, e2, by simp [Instr.findNow, hs', a]; omega, by simpa using b, c, rfl⟩
      · cases hr
    · cases hr
theorem sameBits_of {d : TypeDesc} {a b : Value} (h : Instr.sameNow d a b = some true) (n : Nat) : Instr.sameBits n b a = true := by
  unfold Instr.sameNow at h
  split at h
  · split at h
    · rename_i hk; subst hk
      simp only [Option.some.injEq, beq_iff_eq] at h; subst h
      cases n <;> simp [Instr.sameBits]
    · cases h
  · simp only [Option.some.injEq] at h
    rw [beq_toListBytes, beq_iff_eq] at h
    cases n <;> (simp only [Instr.sameBits]; rw [beq_toListBytes, beq_iff_eq]; exact h.symm)
  · simp only [Option.some.injEq, beq_iff_eq] at h; subst h
    cases n <;> simp [Instr.sameBits]
  · cases h
theorem push_exact {es : Array MapEntry} {n : Nat} {k v : Value} (h1 : n = es.size) (h2 : ∀ (j : Nat) (x : MapEntry), es[j]? = some x → x.born = j) : n + 1 = (es.push ⟨k, v, n⟩).size ∧ ∀ (j : Nat) (x : MapEntry), (es.push ⟨k, v, n⟩)[j]? = some x → x.born = j := by
  refine ⟨by simp [h1], fun j x hx => ?_⟩
  rw [Array.getElem?_push] at hx
  split at hx
  · rename_i e; cases hx; rw [h1, e]
  · exact h2 j x hx
theorem mod_exact {es : Array MapEntry} {n : Nat} (h1 : n = es.size) (h2 : ∀ (j : Nat) (x : MapEntry), es[j]? = some x → x.born = j) (i : Nat) (f : MapEntry → MapEntry) (hf : ∀ e, (f e).born = e.born) : n = (es.modify i f).size ∧ ∀ (j : Nat) (x : MapEntry), (es.modify i f)[j]? = some x → x.born = j := by
  refine ⟨by simp [h1], fun j x hx => ?_⟩
  rw [Array.getElem?_modify] at hx
  split at hx
  · cases e : es[j]? with
    | none => rw [e] at hx; cases hx
    | some y => rw [e] at hx; cases hx; rw [hf]; exact h2 j y e
  · exact h2 j x hx
theorem mapUpd_ok (H : HRel B0 w0 φ h w) {t : TypeId} {m m' k k' v v' : Value} (hm : VRel φ m m') (hk : VRel φ k k') (hv : VRel φ v v') (hr : mapUpdV P h t m k v = some h') :
    ∃ w', (Instr.mapUpdate t m' k' v').run P w = .ok () w' ∧ HRel B0 w0 φ h' w' := by
  unfold mapUpdV at hr
  split at hr
  · rename_i ti r ht
    obtain ⟨it, hit, hut, -⟩ := tiOf_ok ht
    split at hr
    · rename_i kt et hd
      rw [hd] at hut
      split at hr
      · rename_i tk htk
        obtain ⟨ik, hik, huk, -⟩ := tiOf_ok htk
        split at hr
        · rename_i es hkk ho
          split at hr
          · rename_i es2 hup
            simp only [Option.some.injEq] at hr; subst hr
            obtain ⟨b, σ, κ, hp, rfl⟩ := hm.map_inv
            obtain ⟨ents, clock, hw, hl, hst, hset⟩ := H.setMap ho hp
            have hck := run_checkKeyN (w := w) huk hkk false 10000 (by omega) k'
            rcases upd_ok hk hv 0 hl hup with ⟨hf, rfl⟩ | ⟨j, e, hf, he, hs, rfl⟩
            · refine ⟨_, ?_, hset _ (ents.push { key := k', val := v', born := clock }) (clock + 1) h.its (by
                simp only [Array.toList_push]
                exact hl.append (L2.cons ⟨hk, hv⟩ L2.nil)) (MapKept.stamped_push hst (find_none_ne _ _ hf)) (.inl ⟨rfl, fun hx => push_exact hx.1 hx.2⟩)⟩
              simp only [Instr.mapUpdate, Sem.run_bind, run_underlying hut, Result.andThen_ok, run_getObj' hw]
              rw [hck]
              simp only [Result.andThen_ok, run_findKey' huk hf, run_setObj' _ hw]
            · have he' : ents[j]? = some e := by simpa using he
              refine ⟨_, ?_, hset _ (ents.modify j fun e => { e with key := k', val := v' }) clock h.its (by
                have : (ents.modify j fun e => { e with key := k', val := v' }).toList = ents.toList.set j { e with key := k', val := v' } := by
                  apply List.ext_getElem?
                  intro i
                  rw [Array.getElem?_toList, Array.getElem?_modify, List.getElem?_set]
                  by_cases hij : j = i
                  · subst hij
                    rw [if_pos rfl, he', if_pos rfl]
                    have : j < ents.toList.length := (List.getElem?_eq_some_iff.1 he).1
                    rw [if_pos this]; rfl
                  · rw [if_neg hij, if_neg hij, Array.getElem?_toList]
                rw [this]
                exact hl.set j ⟨hk, hv⟩) (MapKept.stamped_modify hst j _ (fun _ _ => rfl) fun x _ hx => by
                  rw [he'] at hx; cases hx; exact same_eq hs) (.inl ⟨rfl, fun hx => mod_exact hx.1 hx.2 _ _ fun _ => rfl⟩)⟩
              simp only [Instr.mapUpdate, Sem.run_bind, run_underlying hut, Result.andThen_ok, run_getObj' hw]
              rw [hck]
              have hb := sameBits_of hs 10000
              simp only [Nat.zero_add] at hf
              simp only [Result.andThen_ok, run_findKey' huk hf, he', Option.map_some, Option.getD_some, Instr.keyThatStays]
              rw [hb]
              simp only [if_true, Sem.run_bind, Sem.run_pure, Result.andThen_ok, run_setObj' _ hw]
          · cases hr
        · cases hr
      · cases hr
    · cases hr
  · cases hr
theorem born_idx {es : Array MapEntry} {clock : Nat} (hst : MapKept.Stamped es clock) {j : Nat} {e : MapEntry} (hj : es[j]? = some e) : es.findIdx? (fun x => (x.born : Int) == (e.born : Int)) = some j := by
  obtain ⟨hlt, he⟩ := Array.getElem?_eq_some_iff.1 hj
  rw [Array.findIdx?_eq_some_iff_getElem]
  refine ⟨hlt, by rw [he]; simp, fun i hi => ?_⟩
  have hilt : i < es.size := by omega
  simp only [beq_iff_eq]
  intro h
  have h : es[i].born = e.born := by omega
  have hn := hst.2.1
  have := List.pairwise_iff_getElem.1 hn i j (by simpa using hilt) (by simpa using hlt) hi
  simp [h, he] at this
theorem estore_ok {t : TypeId} {b : Nat} {ents : Array MapEntry} {clock : Nat} {w : World} (hb : w.heap[b]? = some (.map ents clock)) (hst : MapKept.Stamped ents clock) {j : Nat} {e : MapEntry} (hj : ents[j]? = some e) (v : Value) :
    (Instr.entryStore t (.map (some b)) (goInt e.born) v).run P w = .ok () { w with heap := w.heap.setIfInBounds b (.map (ents.modify j fun e => { e with val := v }) clock) } := by
  simp only [Instr.entryStore, Sem.run_bind, run_getObj' hb, Result.andThen_ok]
  rw [show (asInt (goInt e.born)).run P w = .ok (e.born : Int) w from rfl]
  simp only [Result.andThen_ok, born_idx hst hj, run_setObj' _ hb]
theorem ix_ok {d : TypeDesc} {k k' : Value} (hk : VRel φ k k') : ∀ {es : List (Value × Value)} {es' : List MapEntry} (i : Nat) {j : Nat}, L2 (fun (p : Value × Value) (e : MapEntry) => VRel φ p.1 e.key ∧ VRel φ p.2 e.val) es es' → findIx d k i es = some j →
    (Instr.findNow d k' es' i = some none ∧ j = i + es'.length) ∨ ∃ v, Instr.findNow d k' es' i = some (some (j, v))
  | [], es', i, j, hl, hr => by
    cases hl.nil_left
    simp only [findIx, Option.some.injEq] at hr
    exact .inl ⟨rfl, by simp [hr]⟩
  | (k0, v0) :: es, es', i, j, hl, hr => by
    obtain ⟨e, es2, rfl, ⟨h1, h2⟩, h3⟩ := hl.cons_left
    simp only [findIx] at hr
    simp only [Instr.findNow]
    split at hr
    · rename_i hs
      rw [sameNow_rel hk h1 hs]
      simp only [Option.some.injEq] at hr; subst hr
      exact .inr ⟨_, rfl⟩
    · rename_i hs
      rw [sameNow_rel hk h1 hs]
      rcases ix_ok hk (i + 1) h3 hr with ⟨a, b⟩ | ⟨v, a⟩
      · exact .inl ⟨a, by rw [b, List.length_cons]; omega⟩
      · exact .inr ⟨v, a⟩
    · cases hr
theorem mapEntry_ok (H : HRel B0 w0 φ h w) {t : TypeId} {m m' k k' x : Value} {j : Nat} (hm : VRel φ m m') (hk : VRel φ k k') (hx : lookupV P h t m k false = some x) (hix : mapIx P h t m k = some j) (hr : mapUpdV P h t m k x = some h') :
    ∃ old w1, (Instr.mapEntry t m' k').run P w = .ok (.tuple #[old, goInt j]) w1 ∧ VRel φ x old ∧ HRel B0 w0 φ h' w1 := by
  unfold mapUpdV at hr
  split at hr
  rotate_left
  · cases hr
  rename_i ti r ht
  obtain ⟨it, hit, hut, -⟩ := tiOf_ok ht
  split at hr
  rotate_left
  · cases hr
  rename_i kt et hd
  rw [hd] at hut
  split at hr
  rotate_left
  · cases hr
  rename_i tk htk
  obtain ⟨ik, hik, huk, -⟩ := tiOf_ok htk
  split at hr
  rotate_left
  · cases hr
  rename_i es hkk ho
  split at hr
  rotate_left
  · cases hr
  rename_i es2 hup
  simp only [Option.some.injEq] at hr; subst hr
  unfold mapIx at hix
  simp only [ht, hd, htk, hkk, ho] at hix
  split at hix
  rotate_left
  · cases hix
  rename_i es3 _ he3 hits
  cases he3
  unfold lookupV at hx
  rw [ht] at hx
  simp only [hd, htk] at hx
  split at hx
  rotate_left
  · cases hx
  rename_i te e1 hte
  cases e1
  obtain ⟨ie, hie, hue, _, _, _, hz⟩ := tiOf_ok hte
  rw [hkk] at hx
  split at hx
  rotate_left
  · cases hx
  rename_i z _ hzz
  obtain ⟨hz1, hz2, hz3⟩ := hz z hzz
  simp only [ho] at hx
  obtain ⟨b, σ, κ, hp, rfl⟩ := hm.map_inv
  obtain ⟨ents, clock, hw, hl, hst, hset⟩ := H.setMap ho hp
  obtain ⟨ents2, clock2, hw2, hex1, hex2⟩ := (H.ty.2.2 r hits).2 b σ κ hp
  rw [hw] at hw2
  cases hw2
  have hck := run_checkKeyN (w := w) huk hkk false 10000 (by omega) k'
  have hlt : b < w.heap.size := (Array.getElem?_eq_some_iff.1 hw).1
  have hj := ix_ok hk 0 hl hix
  have hcases : (Instr.findNow tk.und k' ents.toList 0 = some none ∧ x = z) ∨ ∃ i v, Instr.findNow tk.und k' ents.toList 0 = some (some (i, v)) ∧ VRel φ x v := by
    split at hx
    · rename_i y hy
      cases hx
      rcases look_ok hk 0 hl hy with ⟨h1, _⟩ | ⟨v1, j1, v2, h1, h2, h3⟩
      · cases h1
      · cases h1
        exact .inr ⟨j1, v2, h2, h3⟩
    · rename_i hy
      cases hx
      rcases look_ok hk 0 hl hy with ⟨_, h1⟩ | ⟨_, _, _, h1, _⟩
      · exact .inl ⟨h1, rfl⟩
      · cases h1
    · cases hx
  rcases hcases with ⟨hf, hxz⟩ | ⟨i, v, hf, hold⟩
  · rcases hj with ⟨_, hj⟩ | ⟨v, hj⟩
    rotate_left
    · rw [hf] at hj; cases hj
    have hxz' : VRel φ x z := by rw [hxz]; exact flat_rel hz2
    rcases upd_ok hk (v' := z) hxz' 0 hl hup with ⟨_, rfl⟩ | ⟨_, _, h1, _⟩
    rotate_left
    · rw [hf] at h1; cases h1
    have hjc : j = clock := by rw [hj, hex1]; simp
    subst hjc
    refine ⟨z, _, ?_, hxz', hset _ (ents.push ⟨k', z, j⟩) (j + 1) h.its (by
      simp only [Array.toList_push]
      exact hl.append (L2.cons ⟨hk, hxz'⟩ L2.nil)) (MapKept.stamped_push hst (find_none_ne _ _ hf)) (.inl ⟨rfl, fun _ => push_exact hex1 hex2⟩)⟩
    simp only [Instr.mapEntry, Sem.run_bind, run_underlying hut, Result.andThen_ok, run_getObj' hw]
    rw [hck]
    simp only [Result.andThen_ok, run_findKey' huk hf, Sem.run_bind, run_zeroValue' hie hz1, run_setObj' _ hw, Sem.run_pure]
  · rcases hj with ⟨hj, _⟩ | ⟨v2, hj⟩
    · rw [hf] at hj; cases hj
    rw [hf] at hj
    simp only [Option.some.injEq, Prod.mk.injEq] at hj
    obtain ⟨rfl, rfl⟩ := hj
    rcases upd_ok hk (v' := v) hold 0 hl hup with ⟨h1, _⟩ | ⟨i2, e, h1, he, hs, rfl⟩
    · rw [hf] at h1; cases h1
    rw [hf] at h1
    simp only [Nat.zero_add, Option.some.injEq, Prod.mk.injEq] at h1
    obtain ⟨rfl, hev⟩ := h1
    have he' : ents[i]? = some e := by simpa using he
    refine ⟨v, _, ?_, hold, hset _ (ents.modify i fun e => { e with key := k' }) clock h.its (by
      have : (ents.modify i fun e => { e with key := k' }).toList = ents.toList.set i { e with key := k' } := by
        apply List.ext_getElem?
        intro q
        rw [Array.getElem?_toList, Array.getElem?_modify, List.getElem?_set]
        by_cases hij : i = q
        · subst hij
          rw [if_pos rfl, he', if_pos rfl]
          have : i < ents.toList.length := (List.getElem?_eq_some_iff.1 he).1
          rw [if_pos this]; rfl
        · rw [if_neg hij, if_neg hij, Array.getElem?_toList]
      rw [this]
      exact hl.set i ⟨hk, hev ▸ hold⟩) (MapKept.stamped_modify hst i _ (fun _ _ => rfl) fun x _ hx => by
        rw [he'] at hx; cases hx; exact same_eq hs) (.inl ⟨rfl, fun _ => mod_exact hex1 hex2 _ _ fun _ => rfl⟩)⟩
    simp only [Instr.mapEntry, Sem.run_bind, run_underlying hut, Result.andThen_ok, run_getObj' hw]
    rw [hck]
    have hb := sameBits_of hs 10000
    simp only [Result.andThen_ok, run_findKey' huk hf, he', Option.map_some, Option.getD_some, Instr.keyThatStays]
    rw [hb]
    simp only [if_true, Sem.run_bind, Sem.run_pure, Result.andThen_ok, run_setObj' _ hw]
    rw [hex2 i e he']
theorem putAt_spec {v : Value} : ∀ {j : Nat} {es r : List (Value × Value)}, putAt v j es = some r → ∃ k u, es[j]? = some (k, u) ∧ r = es.set j (k, v)
  | j, [], r, h => by cases j <;> simp [putAt] at h
  | 0, (k, u) :: l, r, h => by
    simp only [putAt, Option.some.injEq] at h
    exact ⟨k, u, rfl, h.symm⟩
  | j + 1, p :: l, r, h => by
    simp only [putAt] at h
    split at h
    · rename_i r2 h2
      simp only [Option.some.injEq] at h
      obtain ⟨k, u, h3, rfl⟩ := putAt_spec h2
      exact ⟨k, u, by simpa using h3, h.symm⟩
    · cases h
theorem entryStore_ok (H : HRel B0 w0 φ h w) {t : TypeId} {m m' v v' : Value} {z : Int} (hm : VRel φ m m') (hv : VRel φ v v') (hr : mapPutV h m z v = some h') :
    ∃ w1, (Instr.entryStore t m' (.int .i64 z) v').run P w = .ok () w1 ∧ HRel B0 w0 φ h' w1 := by
  unfold mapPutV at hr
  split at hr
  rotate_left
  · cases hr
  rename_i r j
  split at hr
  rotate_left
  · cases hr
  rename_i es ho hits
  split at hr
  rotate_left
  · cases hr
  rename_i es2 hput
  simp only [Option.some.injEq] at hr; subst hr
  obtain ⟨k, u, hat, rfl⟩ := putAt_spec hput
  obtain ⟨b, σ, κ, hp, rfl⟩ := hm.map_inv
  obtain ⟨ents, clock, hw, hl, hst, hset⟩ := H.setMap ho hp
  obtain ⟨ents2, clock2, hw2, hex1, hex2⟩ := (H.ty.2.2 r hits).2 b σ κ hp
  rw [hw] at hw2
  cases hw2
  obtain ⟨e, he, hr1, hr2⟩ := L2.get hl hat
  have he' : ents[j]? = some e := by simpa using he
  have hbn := hex2 j e he'
  have hrun := estore_ok (P := P) (t := t) hw hst he' v'
  rw [hbn] at hrun
  refine ⟨_, hrun, hset _ _ clock h.its ?_ (MapKept.stamped_modify hst j _ (fun _ _ => rfl) fun x _ hx => ?_) (.inl ⟨rfl, fun _ => mod_exact hex1 hex2 _ _ fun _ => rfl⟩)⟩
  · have : (ents.modify j fun e => { e with val := v' }).toList = ents.toList.set j { e with val := v' } := by
      apply List.ext_getElem?
      intro q
      rw [Array.getElem?_toList, Array.getElem?_modify, List.getElem?_set]
      by_cases hij : j = q
      · subst hij
        rw [if_pos rfl, he', if_pos rfl]
        have : j < ents.toList.length := (List.getElem?_eq_some_iff.1 he).1
        rw [if_pos this]; rfl
      · rw [if_neg hij, if_neg hij, Array.getElem?_toList]
    rw [this]
    exact hl.set j ⟨hr1, hv⟩
  · rfl
theorem del_ok {d : TypeDesc} {k k' : Value} (hk : VRel φ k k') : ∀ {es r : List (Value × Value)} {es' : List MapEntry} (i : Nat), L2 (fun (p : Value × Value) (e : MapEntry) => VRel φ p.1 e.key ∧ VRel φ p.2 e.val) es es' → del d k es = some r →
    (Instr.findNow d k' es' i = some none ∧ r = es) ∨ ∃ j v, Instr.findNow d k' es' i = some (some (i + j, v)) ∧ j < es'.length ∧ r = es.eraseIdx j
  | [], r, es', i, hl, hr => by
    cases hl.nil_left
    simp only [del, Option.some.injEq] at hr; subst hr
    exact .inl ⟨rfl, rfl⟩
  | (q, x) :: es, r, es', i, hl, hr => by
    obtain ⟨e, t, rfl, ⟨h1, h2⟩, h3⟩ := hl.cons_left
    simp only [del] at hr
    split at hr
    · rename_i hs
      simp only [Option.some.injEq] at hr; subst hr
      have hs' := sameNow_rel hk h1 hs
      exact .inr ⟨0, e.val, by simp [Instr.findNow, hs'], by simp, rfl⟩
    · rename_i hs
      have hs' := sameNow_rel hk h1 hs
      split at hr
      · rename_i r2 hr2
        simp only [Option.some.injEq] at hr; subst hr
        rcases del_ok hk (i + 1) h3 hr2 with ⟨a, rfl⟩ | ⟨j, v, a, b, rfl⟩
        · exact .inl ⟨by simp [Instr.findNow, hs', a], rfl⟩
        · exact .inr ⟨j + 1, v, by simp [Instr.findNow, hs', a]; omega, by simpa using b, rfl⟩
      · cases hr
    · cases hr
theorem L2.eraseIdx {α β : Type} {R : α → β → Prop} : ∀ {l : List α} {l' : List β} (j : Nat), L2 R l l' → L2 R (l.eraseIdx j) (l'.eraseIdx j)
  | [], l', j, h => by cases h.nil_left; exact L2.nil
  | a :: l, l', j, h => by
    obtain ⟨b, t, rfl, h1, h2⟩ := h.cons_left
    cases j with
    | zero => exact h2
    | succ j => exact L2.cons h1 (L2.eraseIdx j h2)
theorem delete_ok (H : HRel B0 w0 φ h w) {ts : Array TypeId} {ty : TypeId} {args args' : List Value} {v : Value} (ha : LRel φ args args') (hr : deleteB P h ts args = some (v, h')) : Out B0 w0 φ (Builtin.delete_ ts ty ⟨args'⟩) P w v h' := by
  unfold deleteB at hr
  split at hr
  · rename_i t rest m k hts
    obtain ⟨m', a2, rfl, hm, ha2⟩ := ha.cons_left
    obtain ⟨k', a3, rfl, hk, ha3⟩ := ha2.cons_left
    cases ha3.nil_left
    have hts0 : ts[0]? = some t := by rw [← Array.getElem?_toList, hts]; rfl
    split at hr
    · rename_i ti ht
      obtain ⟨it, hit, hut, -⟩ := tiOf_ok ht
      split at hr
      · rename_i kt et r hd
        rw [hd] at hut
        split at hr
        · rename_i tk htk
          obtain ⟨ik, hik, huk, -⟩ := tiOf_ok htk
          split at hr
          · rename_i es hkk ho
            split at hr
            · rename_i es2 hup
              simp only [Option.some.injEq, Prod.mk.injEq] at hr
              obtain ⟨rfl, rfl⟩ := hr
              obtain ⟨b, σ, κ, hp, rfl⟩ := hm.map_inv
              obtain ⟨ents, clock, hw, hl, hst, hset⟩ := H.setMap ho hp
              have hck := run_checkKeyN (w := w) huk hkk ents.isEmpty 10000 (by omega) k'
              rcases del_ok hk 0 hl hup with ⟨hf, rfl⟩ | ⟨j, v, hf, hj, rfl⟩
              · refine ⟨φ, _, _, ?_, φ.le_refl, VRel.undef, hset _ ents clock .nil hl hst (.inr rfl)⟩
                simp only [Builtin.delete_, hts0, List.getElem?_toArray, List.getElem?_cons_zero, List.getElem?_cons_succ, Sem.run_bind, run_underlying hut, Result.andThen_ok, run_getObj' hw]
                rw [hck]
                simp only [Result.andThen_ok, run_findKey' huk hf, Sem.run_bind, run_setObj' _ hw, Sem.run_pure]
                rfl
              · refine ⟨φ, _, _, ?_, φ.le_refl, VRel.undef, hset _ (ents.eraseIdxIfInBounds j) clock .nil (by
                  rw [Array.toList_eraseIdxIfInBounds]; exact L2.eraseIdx j hl) (MapKept.stamped_erase hst j) (.inr rfl)⟩
                simp only [Nat.zero_add] at hf
                simp only [Builtin.delete_, hts0, List.getElem?_toArray, List.getElem?_cons_zero, List.getElem?_cons_succ, Sem.run_bind, run_underlying hut, Result.andThen_ok, run_getObj' hw]
                rw [hck]
                simp only [Result.andThen_ok, run_findKey' huk hf, Sem.run_bind, run_setObj' _ hw, Sem.run_pure]
                rfl
            · cases hr
          · cases hr
        · cases hr
      · cases hr
    · cases hr
  · cases hr
end Go.Abs
end

section
/- copy, clear, append: held against the model's. -/
open Go.RowKit
namespace Go.Abs
variable {B0 : Zn} {w0 : World} {φ : Map} {h h' : AW} {w : World} {P : Program}
theorem stores_ok (H : HRel B0 w0 φ h w) {i off len cap : Nat} {x' : Value} {l l' : List Value} (hx : VRel φ (.slice (some ⟨i, off, none⟩) len cap) x') (hw : h.wrL i off l = some h') (hl : LRel φ l l') (h0 : len = 0 → l = []) :
    ∃ a' cap', x' = .slice (some a') len cap' ∧ ∃ w', (storeCells a' l' 0).run P w = .ok () w' ∧ HRel B0 w0 φ h' w' := by
  obtain ⟨_, b, σ, κ, a', hp, hσ, ho, rfl⟩ := hx.slice_inv
  refine ⟨a', cap + κ, rfl, ?_⟩
  rcases ho with rfl | ⟨hz, _⟩
  · exact HRel.wrL (P := P) (h := h) (fun _ => rfl) hp (k := 0) H hw hl (off - σ) (fun hne => ⟨by omega, hσ⟩)
  · have := h0 hz; subst this
    simp only [AW.wrL, Option.some.injEq] at hw
    subst hw
    rw [hl.nil_left]
    exact ⟨w, by simp [storeCells], H⟩
theorem clear_ok (H : HRel B0 w0 φ h w) {ts : Array TypeId} {ty : TypeId} {args args' : List Value} {v : Value} (ha : LRel φ args args') (hr : clearB P h ts args = some (v, h')) : Out B0 w0 φ (Builtin.clear_ ts ty ⟨args'⟩) P w v h' := by
  unfold clearB at hr
  split at hr
  · rename_i t x hts
    obtain ⟨x', t', rfl, hx, ht'⟩ := ha.cons_left
    cases ht'.nil_left
    have hts0 : ts[0]? = some t := by rw [← Array.getElem?_toList, hts]; rfl
    split at hr
    · rename_i ti ht
      obtain ⟨it, hit, hut, -⟩ := tiOf_ok ht
      split at hr
      · simp only [Option.some.injEq, Prod.mk.injEq] at hr
        obtain ⟨rfl, rfl⟩ := hr
        cases hx.mapN_inv
        exact ⟨φ, .tuple #[], w, by simp [Builtin.clear_, hts0, run_underlying hut], φ.le_refl, VRel.undef, H⟩
      · simp only [Option.some.injEq, Prod.mk.injEq] at hr
        obtain ⟨rfl, rfl⟩ := hr
        cases hx.sliceN_inv
        exact ⟨φ, .tuple #[], w, by simp [Builtin.clear_, hts0, run_underlying hut], φ.le_refl, VRel.undef, H⟩
      · split at hr
        · rename_i es ho
          simp only [Option.some.injEq, Prod.mk.injEq] at hr
          obtain ⟨rfl, rfl⟩ := hr
          obtain ⟨b, σ, κ, hp, rfl⟩ := hx.map_inv
          obtain ⟨ents, clock, hw, hl, hst, hset⟩ := H.setMap ho hp
          exact ⟨φ, .tuple #[], _, by simp [Builtin.clear_, hts0, run_underlying hut, run_getObj' hw, run_setObj' _ hw], φ.le_refl, VRel.undef, hset [] #[] clock .nil L2.nil (MapKept.stamped_empty clock) (.inr rfl)⟩
        · cases hr
      · rename_i i off n c
        split at hr
        · rename_i elem hd
          rw [hd] at hut
          split at hr
          · rename_i te hte
            obtain ⟨ie, hie, hue, _, hsz, hby, hz⟩ := tiOf_ok hte
            split at hr
            · rename_i z hzz
              obtain ⟨hz1, hz2, hz3⟩ := hz z hzz
              split at hr
              · rename_i h2 hw
                simp only [Option.some.injEq, Prod.mk.injEq] at hr
                obtain ⟨rfl, rfl⟩ := hr
                obtain ⟨a', cap', rfl, w', hrun, H'⟩ := stores_ok (P := P) H hx hw (rep_flat hz2 n) (fun h0 => by subst h0; rfl)
                refine ⟨φ, .tuple #[], w', ?_, φ.le_refl, VRel.undef, H'⟩
                cases n with
                | zero =>
                  simp only [rep, storeCells, Sem.run_pure] at hrun
                  cases hrun
                  simp [Builtin.clear_, hts0, run_underlying hut]
                | succ n =>
                  have hzc : (Builtin.zeroCells z.cells (n + 1)).toList = rep z.cells.toList (n + 1) := by
                    unfold Builtin.zeroCells
                    rw [rep_range]
                  simp only [Builtin.clear_, hts0, List.getElem?_toArray, List.getElem?_cons_zero, Sem.run_bind, run_underlying hut, Result.andThen_ok, run_zeroValue' hie hz1, hzc, hrun, Sem.run_pure]
              · cases hr
            · cases hr
          · cases hr
        · cases hr
      · cases hr
    · cases hr
  · cases hr
theorem goInt_rel {n : Nat} : VRel φ (goInt n) (goInt n) := .int _ _
theorem copy_ok (H : HRel B0 w0 φ h w) {ts : Array TypeId} {ty : TypeId} {args args' : List Value} {v : Value} (ha : LRel φ args args') (hr : copyB P h ts args = some (v, h')) : Out B0 w0 φ (Builtin.copy_ ts ty ⟨args'⟩) P w v h' := by
  unfold copyB at hr
  split at hr
  · rename_i td rest base dlen dcap src hts
    obtain ⟨d', a2, rfl, hd, ha2⟩ := ha.cons_left
    obtain ⟨s', a3, rfl, hs, ha3⟩ := ha2.cons_left
    cases ha3.nil_left
    have hts0 : ts[0]? = some td := by rw [← Array.getElem?_toList, hts]; rfl
    split at hr
    · rename_i ti ht
      obtain ⟨it, hit, hut, -⟩ := tiOf_ok ht
      split at hr
      · rename_i elem hdu
        rw [hdu] at hut
        split at hr
        · rename_i te hte
          obtain ⟨ie, hie, hue, _, hsz, -⟩ := tiOf_ok hte
          split at hr
          · rename_i n l hsrc
            have read : ∃ (m : Nat) (l' : List Value), (Builtin.lenOf s').run P w = .ok m w ∧ Nat.min m dlen = n ∧ (Builtin.firstCells ie.size n s').run P w = .ok ⟨l'⟩ w ∧ LRel φ l l' ∧ (n = 0 → l = []) := by
              split at hsrc
              · rename_i n2 c2
                cases hs.sliceN_inv
                split at hsrc
                · rename_i hb
                  have := beq_true hb; subst this
                  simp only [Option.some.injEq, Prod.mk.injEq] at hsrc
                  obtain ⟨rfl, rfl⟩ := hsrc
                  exact ⟨0, [], rfl, by simp, rfl, L2.nil, fun _ => rfl⟩
                · cases hsrc
              · rename_i i off n2 c2
                obtain ⟨_, b, σ, κ, a', hp, hσ, ho, rfl⟩ := hs.slice_inv
                split at hsrc
                · rename_i l2 hl2
                  simp only [Option.some.injEq, Prod.mk.injEq] at hsrc
                  obtain ⟨rfl, rfl⟩ := hsrc
                  obtain ⟨l', hlr, hlen, hrun⟩ := loadCells_ok (P := P) H hp hl2
                  refine ⟨n2, l', rfl, rfl, ?_, hlr, fun h0 => ?_⟩
                  · simp only [Builtin.firstCells]
                    rcases ho with rfl | ⟨rfl, _⟩
                    · rw [← hsz]; exact hrun
                    · have h0 : Nat.min 0 dlen = 0 := by simp
                      rw [h0] at hlen ⊢
                      have : l' = [] := List.eq_nil_of_length_eq_zero (by simpa using hlen)
                      subst this
                      simp [loadCells, loadCellsFrom]
                  · have : l'.length = 0 := by rw [hlen, h0]; simp
                    exact List.eq_nil_of_length_eq_zero (by rw [hlr.1]; exact this)
                · cases hsrc
              · rename_i b
                cases hs.string_inv
                simp only [Option.some.injEq, Prod.mk.injEq] at hsrc
                obtain ⟨rfl, rfl⟩ := hsrc
                refine ⟨b.size, _, rfl, rfl, ?_, ofBytes_rel _, fun h0 => ?_⟩
                · simp only [Builtin.firstCells, Sem.run_pure]
                  congr 1
                  apply Array.ext'
                  simp [ofBytes, ByteArray.data_extract]
                · rw [h0]; rfl
              · cases hsrc
            obtain ⟨m, l', hlen, hmin, hfirst, hll, hz⟩ := read
            split at hr
            · simp only [Option.some.injEq, Prod.mk.injEq] at hr
              obtain ⟨rfl, rfl⟩ := hr
              cases hd.sliceN_inv
              refine ⟨φ, _, w, ?_, φ.le_refl, goInt_rel, H⟩
              simp only [Builtin.copy_, hts0, List.getElem?_toArray, List.getElem?_cons_zero, List.getElem?_cons_succ, Sem.run_bind, run_underlying hut, Result.andThen_ok, hlen, hmin, run_sizeOf' hie, hfirst, Sem.run_pure]
            · rename_i i off
              split at hr
              · rename_i h2 hw
                simp only [Option.some.injEq, Prod.mk.injEq] at hr
                obtain ⟨rfl, rfl⟩ := hr
                obtain ⟨a', cap', rfl, w', hrun, H'⟩ := stores_ok (P := P) H hd hw hll (fun h0 => hz (by rw [← hmin, h0]; simp))
                refine ⟨φ, _, w', ?_, φ.le_refl, goInt_rel, H'⟩
                simp only [Builtin.copy_, hts0, List.getElem?_toArray, List.getElem?_cons_zero, List.getElem?_cons_succ, Sem.run_bind, run_underlying hut, Result.andThen_ok, hlen, hmin, run_sizeOf' hie, hfirst, Sem.run_pure]
                rw [hrun]
                simp
              · cases hr
            · cases hr
          · cases hr
        · cases hr
      · cases hr
    · cases hr
  · cases hr
def appendTail (elem : TypeId) (size sLen sCap n : Nat) (s : Value) (base : Option Addr) (x : Value) (zeros : Bool) (appended : Sem (Array Value)) : Sem Value := do
  let need := sLen + n
  if need ≤ sCap then
    let new ← appended
    if let some a := base then storeCells (a.add (sLen * size)) new.toList
    pure (.slice base need sCap)
  else
    if (need : Int) > IntKind.i64.max ∧ (zeros ∨ (← typeInfo elem).bytes = 0) then runtimePanic (.error "growslice: len out of range")
    if Builtin.nextslicecap need sCap * (← typeInfo elem).bytes > 2 ^ 48 then (if zeros then runtimePanic (.error "growslice: len out of range") else do
      if !(← Builtin.mayShare size sLen n base x) then mark .noRoom
      unsupported (.resourceLimit "append: a slice or a string whose bytes no memory bears"))
    let newCap ← choose (.appendCap need sCap elem)
    askRoom (newCap * (← typeInfo elem).bytes)
    let old ← Builtin.firstCells size sLen s
    let new ← appended
    let rest := Builtin.zeroCells (← zeroValue elem).cells (newCap - need)
    pure (.slice (some (← newRow elem (old ++ new ++ rest))) need newCap)
theorem appendTail_ok (H : HRel B0 w0 φ h w) {elem : TypeId} {s s' x' v : Value} {n : Nat} {new new' : List Value} {zeros : Bool} {appended : Sem (Array Value)} {base' : Option Addr} {sLen sCap' : Nat}
    (hs : VRel φ s s') (hs' : s' = .slice base' sLen sCap') {ie : TypeInfo} (hie : P.info? elem = some ie)
    (happ : appended.run P w = .ok ⟨new'⟩ w ∧ appended.run P w.drew = .ok ⟨new'⟩ w.drew) (hl : LRel φ new new') (hr : appendV P h elem s n new = some (v, h')) :
    Out B0 w0 φ (appendTail elem ie.size sLen sCap' n s' base' x' zeros appended) P w v h' := by
  unfold appendV at hr
  split at hr
  · rename_i te base len cap hte
    obtain ⟨ie2, hie2, hue, _, hsz, hby, hz⟩ := tiOf_ok hte
    rw [hie] at hie2; cases hie2
    split at hr
    · cases hr
    rename_i hnl
    have hnl := beq_true hnl
    split at hr
    · rename_i hble
      have hble := ble_true hble
      split at hr
      · rename_i i off
        split at hr
        · rename_i h2 hw
          simp only [Option.some.injEq, Prod.mk.injEq] at hr
          obtain ⟨rfl, rfl⟩ := hr
          obtain ⟨_, b, σ, κ, a', hp, hσ, ho, he⟩ := hs.slice_inv
          rw [he] at hs'
          simp only [Value.slice.injEq] at hs'
          obtain ⟨e1, e2, e3⟩ := hs'
          subst e1; subst e2; subst e3
          obtain ⟨w', hrun, H'⟩ : ∃ w', (storeCells (a'.add (len * te.size)) new' 0).run P w = .ok () w' ∧ HRel B0 w0 φ h2 w' := by
            rcases ho with h | ⟨h1, h2⟩
            · subst h
              rw [Addr.add_lit]
              exact HRel.wrL (P := P) (h := h) (fun _ => rfl) hp (k := 0) H hw hl (off - σ + len * te.size) (fun hne => ⟨by omega, by omega⟩)
            · have hn0 : n = 0 := by omega
              rw [hn0] at hnl
              have : new = [] := List.eq_nil_of_length_eq_zero (by simpa using hnl)
              subst this
              simp only [AW.wrL, Option.some.injEq] at hw
              subst hw
              rw [hl.nil_left]
              exact ⟨w, by simp [storeCells], H⟩
          refine ⟨φ, .slice (some a') (len + n) (cap + κ), w', ?_, φ.le_refl, ?_, H'⟩
          · subst he
            simp only [appendTail]
            rw [if_pos (by omega)]
            simp only [Sem.run_bind, happ.1, Result.andThen_ok, ← hsz]
            rw [hrun]
            simp
          · refine VRel.slice hp hσ ?_
            rcases ho with h | ⟨h1, h2⟩
            · exact .inl h
            · exact .inr ⟨by omega, h2⟩
        · cases hr
      · cases hr
      · simp only [Option.some.injEq, Prod.mk.injEq] at hr
        obtain ⟨rfl, rfl⟩ := hr
        have he := hs.sliceN_inv
        rw [he] at hs'
        simp only [Value.slice.injEq] at hs'
        obtain ⟨e1, e2, e3⟩ := hs'
        subst e1; subst e2; subst e3
        refine ⟨φ, .slice none (len + n) cap, w, ?_, φ.le_refl, .sliceN _ _, H⟩
        simp only [appendTail]
        rw [if_pos (by omega)]
        simp only [Sem.run_bind, happ.1, Result.andThen_ok]
        simp
    · rename_i hnb
      have hgt : cap < len + n := by
        rcases Nat.lt_or_ge cap (len + n) with h | h
        · exact h
        · rw [Nat.ble_eq_true_of_le h] at hnb; cases hnb
      split at hr
      · cases hr
      rename_i hroom
      simp only [Bool.and_eq_true] at hroom
      obtain ⟨⟨⟨hroom1, hroom2⟩, hone⟩, hzs⟩ := hroom
      have hroom1 : (len + n) * te.bytes ≤ 70368744177664 := ble_true hroom1
      have hroom2 := ble_true hroom2
      obtain ⟨z, hzz⟩ := Option.isSome_iff_exists.1 hzs
      obtain ⟨hz1, hz2, hz3⟩ := hz z hzz
      have growRun : ∀ (old' : List Value), sLen = len → sCap' < len + n → (Builtin.firstCells ie.size len s').run P w.drew = .ok ⟨old'⟩ w.drew →
          (appendTail elem ie.size sLen sCap' n s' base' x' zeros appended).run P w =
            .ok (.slice (some ⟨w.heap.size, 0, none⟩) (len + n) (grownCap w (len + n) sCap' elem)) (w.drew.alloc (.cells ⟨old' ++ new' ++ rep z.cells.toList (grownCap w (len + n) sCap' elem - (len + n))⟩ elem)) := by
        intro old' e1 e2 hold
        subst e1
        have hfit : ¬ (Builtin.nextslicecap (sLen + n) sCap' * ie.bytes > 2 ^ 48) := by
          have := growslice_fits (bytes := ie.bytes) e2 (by rw [← hby]; omega)
          rw [show (2 : Nat) ^ 48 = 281474976710656 from by decide]; omega
        have hmax : ¬ (((sLen + n : Nat) : Int) > IntKind.i64.max ∧ (zeros = true ∨ ie.bytes = 0)) := by
          rw [show IntKind.i64.max = 9223372036854775807 from by decide]; omega
        unfold appendTail
        simp only []
        rw [if_neg (by omega)]
        simp only [Sem.run_bind, run_typeInfo' hie, Result.andThen_ok]
        rw [if_neg hmax]
        simp only [Sem.run_bind, run_typeInfo' hie, Result.andThen_ok]
        rw [if_neg hfit]
        simp only [Sem.run_bind, run_typeInfo' hie, Sem.run_pure, run_choose, Question.forced, Bool.false_eq_true, if_false, Result.andThen_ok, run_askRoom]
        rw [show ({ w with drawn := w.drawn + 1 } : World) = w.drew from rfl, hold]
        simp only [Result.andThen_ok, happ.2, run_zeroValue' hie hz1, newRow, run_newObj, Sem.run_bind, Sem.run_pure]
        have hcells : (⟨old'⟩ ++ ⟨new'⟩ ++ Builtin.zeroCells z.cells ((Question.appendCap (sLen + n) sCap' elem).cut (w.tape w.drawn (Question.appendCap (sLen + n) sCap' elem)) - (sLen + n)) : Array Value) =
            ⟨old' ++ new' ++ rep z.cells.toList (grownCap w (sLen + n) sCap' elem - (sLen + n))⟩ := by
          unfold Builtin.zeroCells
          rw [rep_range]
          apply Array.ext'
          simp [grownCap]
        rw [hcells]
        rfl
      have hcapge : ∀ c, len + n ≤ grownCap w (len + n) c elem := fun c => appendCap_ge
      split at hr
      · split at hr
        · rename_i j h2 hb0 hn
          simp only [Option.some.injEq, Prod.mk.injEq] at hr
          obtain ⟨rfl, rfl⟩ := hr
          have := beq_true hb0; subst this
          have he := hs.sliceN_inv
          rw [he] at hs'
          simp only [Value.slice.injEq] at hs'
          obtain ⟨e1, e2, e3⟩ := hs'
          subst e1; subst e2; subst e3
          have hrun := growRun [] rfl hgt (by rw [he]; simp [Builtin.firstCells])
          obtain ⟨ψ, h1, h2', h3⟩ := H.drew.newRow hn hl (rest := rep z.cells.toList (grownCap w (0 + n) cap elem - (0 + n))) elem (grownCap w (0 + n) cap elem - (0 + n)) (by rw [rep_length]; simp [hz3])
          refine ⟨ψ, _, _, hrun, h1, ?_, h3.tag (h3.dom _ _ h2') (fun b σ κ e => by rw [h2'] at e; cases e; exact ⟨_, _, heap_alloc_new _ _⟩)⟩
          have := VRel.slice (φ := ψ) (len := n) (cap := n) h2' (Nat.zero_le 0) (.inl (by rfl))
          have hg := hcapge cap
          simp only [Nat.zero_add] at hg this ⊢
          rw [show n + (grownCap w n cap elem - n) = grownCap w n cap elem from by omega] at this
          exact this
        · cases hr
      · rename_i i off
        obtain ⟨_, b, σ, κ, a', hp, hσ, ho, he⟩ := hs.slice_inv
        have hs2 := hs'
        rw [he] at hs2
        simp only [Value.slice.injEq] at hs2
        obtain ⟨e1, e2, e3⟩ := hs2
        subst e1; subst e2; subst e3
        split at hr
        · rename_i cs m ro hob
          obtain ⟨b2, σ2, κ2, hp2, hR⟩ := H.obj i _ hob
          rw [hp] at hp2; cases hp2
          obtain ⟨rfl, rfl, -⟩ := hR
          split at hr
          · rename_i old hold
            split at hr
            · rename_i j h2 hn
              simp only [Option.some.injEq, Prod.mk.injEq] at hr
              obtain ⟨rfl, rfl⟩ := hr
              obtain ⟨old', hor, holen, horun⟩ := loadCells_ok (P := P) H.drew hp hold
              have hfirst : (Builtin.firstCells ie.size len s').run P w.drew = .ok ⟨old'⟩ w.drew := by
                rw [he]
                simp only [Builtin.firstCells]
                rcases ho with h | ⟨h1, _⟩
                · rw [h, ← hsz]; exact horun
                · subst h1
                  have : old' = [] := List.eq_nil_of_length_eq_zero (by simpa using holen)
                  subst this
                  simp [loadCells, loadCellsFrom]
              have hrun := growRun old' rfl (by omega) hfirst
              obtain ⟨ψ, h1, h2', h3⟩ := H.drew.newRow hn (hor.append hl) (rest := rep z.cells.toList (grownCap w (len + n) (cap + 0) elem - (len + n))) elem (grownCap w (len + n) (cap + 0) elem - (len + n)) (by rw [rep_length]; simp [hz3])
              refine ⟨ψ, _, _, hrun, h1, ?_, h3.tag (h3.dom _ _ h2') (fun b σ κ e => by rw [h2'] at e; cases e; exact ⟨_, _, heap_alloc_new _ _⟩)⟩
              have := VRel.slice (φ := ψ) (len := len + n) (cap := len + n) h2' (Nat.zero_le 0) (.inl (by rfl))
              have hg := hcapge (cap + 0)
              rw [show len + n + (grownCap w (len + n) (cap + 0) elem - (len + n)) = grownCap w (len + n) (cap + 0) elem from by omega] at this
              exact this
            · cases hr
          · cases hr
        · rename_i f g lo hi sz cs hob
          split at hr
          · rename_i fm hfm
            split at hr
            · rename_i hc
              simp only [Bool.and_eq_true] at hc
              obtain ⟨⟨⟨⟨⟨c1, c2⟩, c3⟩, c4⟩, c5⟩, c6⟩ := hc
              have c1 := beq_true c1
              have c2 := ble_true c2
              have c3 := beq_true c3
              have c4 := ble_true c4
              have c5 := beq_true c5
              have c6 := ble_true c6
              subst c3
              simp only [Option.some.injEq, Prod.mk.injEq] at hr
              obtain ⟨rfl, rfl⟩ := hr
              obtain ⟨hin, hgrow⟩ := H.drew.grow (P := P) hob hp hfm c1 (off := off) (e := off + len * te.size) c2 (by omega) c4 c6 hl hone rfl
              obtain ⟨hin', -⟩ := H.grow (P := P) hob hp hfm c1 (off := off) (e := off + len * te.size) c2 (by omega) c4 c6 hl hone rfl
              obtain ⟨b3, σ3, κ3, hp3, hR⟩ := H.obj i _ hob
              rw [hp] at hp3; cases hp3
              obtain ⟨q1, q2, q3, q4, q5, q6⟩ := hR fm hfm c1
              by_cases hfit : len + n ≤ cap + κ
              · -- room in the array: written in place
                have hcapsz : cap * te.size + κ * te.size = (cap + κ) * te.size := by rw [Nat.add_mul]
                have hnsz : len * te.size + n * te.size = (len + n) * te.size := by rw [Nat.add_mul]
                have hsub : (cap + κ) * te.size = (len + n) * te.size + (cap + κ - (len + n)) * te.size := by rw [← Nat.add_mul]; congr 1; omega
                obtain ⟨w', ψ, hrun, hle, hpn, H'⟩ := hin' (cap + κ - (len + n)) (by omega)
                have hoff : a' = ⟨b, off - σ, none⟩ := by
                  rcases ho with h | ⟨h1, h2⟩
                  · exact h
                  · omega
                refine ⟨ψ, .slice (some a') (len + n) (cap + κ), w', ?_, hle, ?_, HRel.tagAs H' (Nat.lt_succ_self _) hpn (fun e => (H'.ty.1 i elem e).2 _ _ _ (hle _ _ hp))⟩
                · rw [he]
                  simp only [appendTail]
                  rw [if_pos hfit]
                  simp only [Sem.run_bind, happ.1, Result.andThen_ok, Addr.add_lit, ← hsz]
                  rw [hoff, Addr.add_lit, show off - σ + len * te.size = off + len * te.size - σ from by omega]
                  rw [hrun]
                  simp
                · have := VRel.slice (φ := ψ) (i := h.next) (off := off) (len := len + n) (cap := len + n) hpn hσ (.inl rfl)
                  rw [show len + n + (cap + κ - (len + n)) = cap + κ from by omega] at this
                  rw [hoff]; exact this
              · -- a new array
                have hexists : ∃ old' : List Value, old'.length = len * te.size ∧ ∀ j v', old'[j]? = some v' → w.cell? ⟨b, off - σ + j, none⟩ = some v' := by
                  refine ⟨(List.range (len * te.size)).map fun j => (w.cell? ⟨b, off - σ + j, none⟩).getD undef, by simp, fun j v' hj => ?_⟩
                  rw [List.getElem?_map] at hj
                  cases hrg : (List.range (len * te.size))[j]? with
                  | none => simp [hrg] at hj
                  | some k =>
                    simp only [hrg, Option.map_some, Option.some.injEq] at hj
                    have hlt : j < len * te.size := by have := (List.getElem?_eq_some_iff.1 hrg).1; simpa using this
                    have hk : k = j := by
                      rw [List.getElem?_range hlt] at hrg; exact (Option.some.inj hrg).symm
                    subst hk
                    obtain ⟨u, hu⟩ := q5 (off + k) (by omega) (by have : 0 ≤ κ * te.size := Nat.zero_le _; omega)
                    rw [show off - σ + k = off + k - σ from by omega, hu] at hj ⊢
                    simpa using hj
                obtain ⟨old', holen, hocell⟩ := hexists
                have hfirst : (Builtin.firstCells ie.size len s').run P w.drew = .ok ⟨old'⟩ w.drew := by
                  rw [he]
                  simp only [Builtin.firstCells, ← hsz]
                  rcases ho with h | ⟨h1, _⟩
                  · rw [h, ← holen]
                    exact run_loadCells_list (P := P) w.drew ⟨b, off - σ, none⟩ old' (fun j v' hv => by rw [Addr.add_lit]; exact hocell j v' hv)
                  · subst h1
                    have : old' = [] := List.eq_nil_of_length_eq_zero (by simpa using holen)
                    subst this
                    simp [loadCells, loadCellsFrom]
                have hrun := growRun old' rfl (by omega) hfirst
                obtain ⟨ψ, hle, hpn, H'⟩ := hgrow (grownCap w (len + n) (cap + κ) elem - (len + n)) old' (rep z.cells.toList (grownCap w (len + n) (cap + κ) elem - (len + n))) elem hocell (by rw [holen]; omega) (by rw [rep_length]; simp [hz3])
                refine ⟨ψ, _, _, hrun, hle, ?_, HRel.tagAs H' (Nat.lt_succ_self _) hpn (fun _ => ⟨_, _, heap_alloc_new _ _⟩)⟩
                have := VRel.slice (φ := ψ) (i := h.next) (off := off) (a' := ⟨_, off - off, none⟩) (len := len + n) (cap := len + n) hpn (Nat.le_refl _) (.inl rfl)
                have hg := hcapge (cap + κ)
                rw [show len + n + (grownCap w (len + n) (cap + κ) elem - (len + n)) = grownCap w (len + n) (cap + κ) elem from by omega, Nat.sub_self] at this
                exact this
            · cases hr
          · cases hr
        · cases hr
      · cases hr
  · cases hr
end Go.Abs
end

section
/- Every operation that is no call of a function, held against the model's. -/
open Go.RowKit
namespace Go.Abs
variable {B0 : Zn} {w0 : World} {φ : Map} {h h' : AW} {w : World} {P : Program}
theorem append_tail {ts : Array TypeId} {ty tS tX elem : TypeId} {s' x' : Value} {base' : Option Addr} {sLen sCap' n : Nat} {ie : TypeInfo} {dX : TypeDesc} (hts : ts.toList = [tS, tX])
    (hs' : s' = .slice base' sLen sCap') (hu : P.underlying tS = some (.slice elem)) (hie : P.info? elem = some ie) (hx : P.underlying tX = some dX) (hni : isInt dX = false) (hlen : (Builtin.lenOf x').run P w = .ok n w) :
    (Builtin.append_ ts ty ⟨[s', x']⟩).run P w = (appendTail elem ie.size sLen sCap' n s' base' x' false (Builtin.firstCells ie.size n x')).run P w := by
  have h0 : ts[0]? = some tS := by rw [← Array.getElem?_toList, hts]; rfl
  have h1 : ts[1]? = some tX := by rw [← Array.getElem?_toList, hts]; rfl
  subst hs'
  cases dX
  case int => simp [isInt] at hni
  all_goals
    unfold Builtin.append_ appendTail
    simp only [h0, h1, List.getElem?_toArray, List.getElem?_cons_zero, List.getElem?_cons_succ, Sem.run_bind, run_underlying hu, Result.andThen_ok, run_sizeOf' hie, run_underlying hx, Sem.run_pure,
      Bool.false_eq_true, if_false, hlen, Bool.not_false, if_true, false_or]
    rfl
theorem append_tailZ {ts : Array TypeId} {ty tS tX elem : TypeId} {s' : Value} {base' : Option Addr} {sLen sCap' n : Nat} {ie : TypeInfo} {z : Value} (hts : ts.toList = [tS, tX])
    (hs' : s' = .slice base' sLen sCap') (hu : P.underlying tS = some (.slice elem)) (hie : P.info? elem = some ie) (hx : P.underlying tX = some (.int .i64)) (hn : n ≤ 9223372036854775807) (hb : n * ie.bytes ≤ 281474976710656) :
    (Builtin.append_ ts ty ⟨[s', .int .i64 (n : Int)]⟩).run P w = (appendTail elem ie.size sLen sCap' n s' base' (.int .i64 (n : Int)) true (if n * ie.size = 0 then pure #[] else do pure (Builtin.zeroCells (← zeroValue elem).cells n))).run P w := by
  have h0 : ts[0]? = some tS := by rw [← Array.getElem?_toList, hts]; rfl
  have h1 : ts[1]? = some tX := by rw [← Array.getElem?_toList, hts]; rfl
  subst hs'
  have w1 := wrap_nat hn
  have hb' : ¬ ((n : Int) * (ie.bytes : Int) > 2 ^ 48) := by
    rw [show (2 : Int) ^ 48 = 281474976710656 by decide]
    have : ((n * ie.bytes : Nat) : Int) ≤ 281474976710656 := by omega
    rw [Int.natCast_mul] at this
    omega
  have hn0 : ¬ ((n : Int) < 0) := by omega
  unfold Builtin.append_ appendTail
  simp only [h0, h1, List.getElem?_toArray, List.getElem?_cons_zero, List.getElem?_cons_succ, Sem.run_bind, run_underlying hu, Result.andThen_ok, run_sizeOf' hie, run_underlying hx, Sem.run_pure, if_true, asInt, asIntOf, w1]
  rw [if_neg hn0]
  simp only [Sem.run_bind, run_typeInfo' hie, Result.andThen_ok]
  rw [if_neg hb']
  simp only [Sem.run_bind, Sem.run_pure, Result.andThen_ok, Int.toNat_natCast, Bool.not_true, Bool.false_eq_true, if_false]
  rfl
theorem append_ok (H : HRel B0 w0 φ h w) {ts : Array TypeId} {ty : TypeId} {args args' : List Value} {v : Value} (ha : LRel φ args args') (hr : appendB P h ts args = some (v, h')) : Out B0 w0 φ (Builtin.append_ ts ty ⟨args'⟩) P w v h' := by
  unfold appendB at hr
  split at hr
  · rename_i tS tX s x hts
    obtain ⟨s', a2, rfl, hs, ha2⟩ := ha.cons_left
    obtain ⟨x', a3, rfl, hx, ha3⟩ := ha2.cons_left
    cases ha3.nil_left
    split at hr
    · rename_i ti tj hti htj
      obtain ⟨it, hit, hut, -⟩ := tiOf_ok hti
      obtain ⟨ij, hij, huj, -⟩ := tiOf_ok htj
      split at hr
      · rename_i elem hdu
        rw [hdu] at hut
        split at hr
        · rename_i te hte
          obtain ⟨ie, hie, hue, _, hsz, hby, hz⟩ := tiOf_ok hte
          have hslice : ∃ base' sLen sCap', s' = .slice base' sLen sCap' := by
            have : ∃ b l c, s = .slice b l c := by
              have aux : ∀ {n : Nat} {new : List Value} {r}, appendV P h elem s n new = some r → ∃ b l c, s = .slice b l c := by
                intro n new r hh
                unfold appendV at hh
                split at hh
                · exact ⟨_, _, _, rfl⟩
                · cases hh
              repeat' split at hr
              all_goals first | exact aux hr | cases hr
            obtain ⟨b, l, c, rfl⟩ := this
            cases hs with
            | sliceN => exact ⟨_, _, _, rfl⟩
            | slice => exact ⟨_, _, _, rfl⟩
          obtain ⟨base', sLen, sCap', hs'⟩ := hslice
          split at hr
          · rename_i hni
            split at hr
            · rename_i n c
              cases hx.sliceN_inv
              split at hr
              · rename_i hb
                have := beq_true hb; subst this
                unfold Out
                rw [append_tail hts hs' hut hie huj hni (n := 0) rfl]
                exact appendTail_ok H hs hs' hie ⟨rfl, rfl⟩ L2.nil hr
              · cases hr
            · rename_i i off n c
              obtain ⟨_, b, σ, κ, a', hp, hσ, ho, rfl⟩ := hx.slice_inv
              split at hr
              · rename_i l hl
                unfold Out
                rw [append_tail hts hs' hut hie huj hni (n := n) rfl]
                obtain ⟨l', hlr, hlen, hrun⟩ := loadCells_ok (P := P) H hp hl
                obtain ⟨l2, hlr2, hlen2, hrun2⟩ := loadCells_ok (P := P) H.drew hp hl
                have e2 : l2 = l' := by
                  have h1 : (loadCells ⟨b, off - σ, none⟩ (n * te.size)).run P w.drew = .ok ⟨l'⟩ w.drew := by
                    obtain ⟨hl3, _, l3, hlr3, hc3⟩ := H.rdN hp hl
                    have r1 := run_loadCells_list (P := P) w ⟨b, off - σ, none⟩ l3 (fun j v hv => by rw [Addr.add_lit]; exact hc3 j v hv)
                    have r2 := run_loadCells_list (P := P) w.drew ⟨b, off - σ, none⟩ l3 (fun j v hv => by rw [Addr.add_lit]; exact hc3 j v hv)
                    rw [← hlr3.1, hl3] at r1 r2
                    rw [hrun] at r1
                    cases r1
                    exact r2
                  rw [hrun2] at h1
                  cases h1; rfl
                subst e2
                refine appendTail_ok H hs hs' hie ⟨?_, ?_⟩ hlr hr
                · simp only [Builtin.firstCells, ← hsz]
                  rcases ho with h | ⟨h1, _⟩
                  · rw [h]; exact hrun
                  · subst h1
                    have : l2 = [] := List.eq_nil_of_length_eq_zero (by simpa using hlen)
                    subst this; simp [loadCells, loadCellsFrom]
                · simp only [Builtin.firstCells, ← hsz]
                  rcases ho with h | ⟨h1, _⟩
                  · rw [h]; exact hrun2
                  · subst h1
                    have : l2 = [] := List.eq_nil_of_length_eq_zero (by simpa using hlen)
                    subst this; simp [loadCells, loadCellsFrom]
              · cases hr
            · rename_i b
              cases hx.string_inv
              unfold Out
              rw [append_tail hts hs' hut hie huj hni (n := b.size) rfl]
              have hc : ((b.extract 0 b.size).data.map fun b => Value.int .u8 (b.toNat : Int)) = ⟨ofBytes b.data.toList⟩ := by
                apply Array.ext'
                simp [ofBytes, ByteArray.data_extract]
              exact appendTail_ok H hs hs' hie ⟨by simp only [Builtin.firstCells, Sem.run_pure, hc], by simp only [Builtin.firstCells, Sem.run_pure, hc]⟩ (ofBytes_rel _) hr
            · cases hr
          · split at hr
            · rename_i n z hzz hju
              cases hx.int_inv
              obtain ⟨hz1, hz2, hz3⟩ := hz z hzz
              rw [hju] at huj
              split at hr
              · rename_i hb
                simp only [Bool.and_eq_true] at hb
                have b1 := ble_true hb.1
                have b2 := ble_true hb.2
                unfold Out
                rw [show (Value.int .i64 (Int.ofNat n)) = .int .i64 (n : Int) from rfl, append_tailZ (z := z) hts hs' hut hie huj b2 (by rw [← hby]; exact b1)]
                have app : ∀ w : World, ((if n * ie.size = 0 then pure #[] else do pure (Builtin.zeroCells (← zeroValue elem).cells n) : Sem (Array Value))).run P w = .ok ⟨rep z.cells.toList n⟩ w := by
                  intro w
                  split
                  · rename_i h0
                    have : rep z.cells.toList n = [] := List.eq_nil_of_length_eq_zero (by rw [rep_length]; simp [hz3, hsz, h0])
                    rw [this]
                    rfl
                  · simp only [Sem.run_bind, run_zeroValue' hie hz1, Result.andThen_ok, Sem.run_pure]
                    unfold Builtin.zeroCells
                    rw [rep_range]
                exact appendTail_ok H hs hs' hie ⟨app _, app _⟩ (rep_flat hz2 n) hr
              · cases hr
            · cases hr
        · cases hr
      · cases hr
    · cases hr
  · cases hr
theorem run_loadBytesI (w : World) : ∀ (ns : List Int) (a : Addr) (acc : ByteArray), (∀ (j : Nat) x, ns[j]? = some x → w.cell? (a.add j) = some (.int .u8 x)) →
    (loadBytes a acc ns.length).run P w = .ok ⟨acc.data ++ (ns.map fun n => UInt8.ofNat n.toNat).toArray⟩ w
  | [], a, acc, _ => by simp [loadBytes]
  | x :: l, a, acc, h => by
    have h0 : w.cell? a = some (.int .u8 x) := by
      have := h 0 x rfl
      simpa [Addr.add] using this
    have ih := run_loadBytesI w l (a.add 1) (acc.push (UInt8.ofNat x.toNat)) (fun j y hy => by
      have := h (j + 1) y (by simpa using hy)
      have e : (a.add 1).add j = a.add (j + 1) := by
        unfold Addr.add
        by_cases hj : j = 0
        · subst hj; simp
        · simp [hj]; omega
      rw [e]; exact this)
    have hx : x.toNat.toUInt8 = UInt8.ofNat x.toNat := rfl
    simp only [List.length_cons, loadBytes, Sem.run_bind, run_load, h0, Result.andThen, hx]
    rw [ih]
    congr 1
    apply ByteArray.ext
    simp [ByteArray.push]
theorem run_unsafeStringI (w : World) (pt it ty e : TypeId) (hp : P.underlying pt = some (.pointer e)) (hc : P.cellsOf e = 1) (g cells : Nat) (hsh : w.shape? g = some (e, cells)) (l : List Int) (h0 : l ≠ []) (hn : l.length ≤ cells) (h63 : l.length ≤ 9223372036854775807)
    (hcell : ∀ (j : Nat) x, l[j]? = some x → w.cell? ((⟨g, 0, none⟩ : Addr).add j) = some (.int .u8 x)) :
    (Builtin.unsafeString_ #[pt, it] ty #[.pointer (some ⟨g, 0, none⟩), .int .i64 l.length]).run P w = .ok (.string ⟨⟨l.map fun n => UInt8.ofNat n.toNat⟩⟩) (w.freeze ⟨g, 0, none⟩ l.length) := by
  have hl : l.length ≠ 0 := by simpa using h0
  have hlb := run_loadBytesI (P := P) w l ⟨g, 0, none⟩ .empty hcell
  have hlies := Lib.liesAt_bytes (P := P) hc (cells / P.cellsOf e) l.length (by rw [hc]; simpa using hn)
  have h63' : ¬ (9223372036854775807 : Int) < (l.length : Int) := by omega
  have hdef : Builtin.unsafeString_ #[pt, it] ty #[.pointer (some ⟨g, 0, none⟩), .int .i64 l.length] =
      (do
        let n ← asInt (.int .i64 l.length)
        if n < 0 then runtimePanic (.error "unsafe.String: len out of range")
        if n > IntKind.i64.max then unsupported (.unsafePointer "String: a length above the largest int")
        if n = 0 then pure (.string .empty)
        else if ← variablesAt ⟨g, 0, none⟩ (← elemOf pt) n.toNat then do
          let s ← loadBytes ⟨g, 0, none⟩ .empty n.toNat
          freeze ⟨g, 0, none⟩ n.toNat
          pure (.string s)
        else unsupported (.unsafePointer "String: not so many bytes at ptr")) := rfl
  rw [hdef]
  have hmax : IntKind.i64.max = 9223372036854775807 := rfl
  have hneg : ¬ (l.length : Int) < 0 := by omega
  simp [asInt, asIntOf, hmax, h63', hneg, hl, variablesAt, hsh, elemOf, run_underlying hp, hlies, hlb]
theorem ustr_ok (H : HRel B0 w0 φ h w) {ts : Array TypeId} {ty : TypeId} {args args' : List Value} {v : Value} (ha : LRel φ args args') (hr : ustrB P h ts args = some (v, h')) : Out B0 w0 φ (Builtin.unsafeString_ ts ty ⟨args'⟩) P w v h' := by
  unfold ustrB at hr
  split at hr
  · rename_i pt it p n hts
    have hts : ts = #[pt, it] := by rw [← Array.toList_inj]; exact hts
    subst hts
    obtain ⟨x1, t1, rfl, hx, ht1⟩ := L2.cons_left ha
    obtain ⟨x2, t2, rfl, hy, ht2⟩ := L2.cons_left ht1
    cases ht2.nil_left
    cases hy.int_inv
    split at hr
    · rename_i hn0
      have hn0 := beq_true hn0
      subst hn0
      simp only [Option.some.injEq, Prod.mk.injEq] at hr
      obtain ⟨rfl, rfl⟩ := hr
      refine ⟨φ, .string .empty, w, ?_, φ.le_refl, .string _, H⟩
      cases hx with
      | ptrN => exact Lib.run_unsafeString_none w pt it ty none
      | ptr h1 h2 => exact Lib.run_unsafeString_none w pt it ty _
    · rename_i hn0
      split at hr
      · rename_i i off hn63
        split at hr
        · rename_i ti t hoff hti hty
          have hoff := beq_true hoff
          subst hoff
          split at hr
          · rename_i e hund
            split at hr
            · rename_i te hte0 hte
              have hte0 := beq_true hte0
              subst hte0
              split at hr
              · rename_i l hsz hl
                have hsz := beq_true hsz
                split at hr
                · rename_i bs h2 hbs hfg
                  simp only [Option.some.injEq, Prod.mk.injEq] at hr
                  obtain ⟨rfl, rfl⟩ := hr
                  obtain ⟨it2, hit2, hut, -⟩ := tiOf_ok hti
                  rw [hund] at hut
                  obtain ⟨ie, hie, _, _, hszE, _⟩ := tiOf_ok hte
                  have hcE : P.cellsOf t = 1 := by unfold Program.cellsOf; rw [hie]; simp [← hszE, hsz]
                  cases hx with
                  | ptr hp hσ =>
                    rename_i b σ κ
                    have hσ : σ = 0 := by omega
                    subst hσ
                    obtain ⟨hlen, -, l', hll, hcells⟩ := H.rdN hp hl
                    obtain ⟨ns, rfl, rfl⟩ := bytesV_ok hbs
                    have hl' := LRel_ints hll
                    subst hl'
                    have hnn : ns.length = n := by simpa using hlen
                    obtain ⟨hlt, hblk⟩ := H.ty.1 i t hty
                    obtain ⟨c, fz, hblk⟩ := hblk b 0 κ hp
                    have hn1 : n ≠ 0 := by intro e; subst e; simp at hn0
                    have hcell : ∀ (j : Nat) x, ns[j]? = some x → w.cell? ((⟨b, 0, none⟩ : Addr).add j) = some (.int .u8 x) := by
                      intro j x hj
                      have := hcells j (.int .u8 x) (by rw [List.getElem?_map, hj]; rfl)
                      rw [Addr.add_lit]
                      simpa using this
                    have hsize : ns.length ≤ c.size := by
                      rcases Nat.lt_or_ge c.size ns.length with hlt2 | hge
                      · have := hcell c.size ns[c.size] (List.getElem?_eq_getElem hlt2)
                        rw [Addr.add_lit] at this
                        simp only [World.cell?, hblk] at this
                        simp at this
                      · exact hge
                    have hrun := run_unsafeStringI (P := P) w pt it ty t hut hcE b c.size (by simp [World.shape?, hblk]) ns (by intro e; rw [e] at hnn; simp at hnn; omega) hsize (by rw [hnn]; exact ble_true hn63) hcell
                    rw [hnn] at hrun
                    refine ⟨φ, _, _, ?_, φ.le_refl, .string _, H.forget (a := ⟨b, 0, none⟩) hp hfg rfl n⟩
                    exact hrun
                · cases hr
              · cases hr
            · cases hr
          · cases hr
        · cases hr
      · cases hr
  · cases hr
theorem builtinA_ok (H : HRel B0 w0 φ h w) {b : Builtin} {ts : Array TypeId} {ty : TypeId} {cs : Array Bool} {args args' : List Value} {v : Value} (ha : LRel φ args args') (hr : builtinA P h b ts args = some (v, h')) :
    ∃ ψ v' w', (builtin b ts ty cs ⟨args'⟩).run P w = .ok (.value v') w' ∧ φ.le ψ ∧ VRel ψ v v' ∧ HRel B0 w0 ψ h' w' := by
  unfold builtinA at hr
  split at hr
  · obtain ⟨ψ, v', w', h1, h2⟩ := append_ok (P := P) (ty := ty) H ha hr
    exact ⟨ψ, v', w', by simp only [builtin, Sem.run_bind, h1, Result.andThen_ok, Sem.run_pure], h2⟩
  · obtain ⟨ψ, v', w', h1, h2⟩ := copy_ok (P := P) (ty := ty) H ha hr
    exact ⟨ψ, v', w', by simp only [builtin, Sem.run_bind, h1, Result.andThen_ok, Sem.run_pure], h2⟩
  · obtain ⟨ψ, v', w', h1, h2⟩ := delete_ok (P := P) (ty := ty) H ha hr
    exact ⟨ψ, v', w', by simp only [builtin, Sem.run_bind, h1, Result.andThen_ok, Sem.run_pure], h2⟩
  · obtain ⟨ψ, v', w', h1, h2⟩ := clear_ok (P := P) (ty := ty) H ha hr
    exact ⟨ψ, v', w', by simp only [builtin, Sem.run_bind, h1, Result.andThen_ok, Sem.run_pure], h2⟩
  · obtain ⟨ψ, v', w', h1, h2⟩ := ustr_ok (P := P) (ty := ty) H ha hr
    exact ⟨ψ, v', w', by simp only [builtin, Sem.run_bind, h1, Result.andThen_ok, Sem.run_pure], h2⟩
  · cases hr
def Gives (s : Sem Next) (P : Program) (w : World) (v' : Value) (w' : World) : Prop := s.run P w = .ok (.value v') w' ∨ (v' = undef ∧ s.run P w = .ok .skip w')
theorem execOp_buildSlice (ρ : Operand → Value) (dst : Option Tmp) (t : TypeId) (len : Nat) (parts : Array (Nat × Operand)) (type : TypeId) (pos : String) (after : Array Edge) (guard : Option (Nat × Bool)) :
    execOp ρ ⟨dst, .buildSlice t len parts, type, pos, after, guard⟩ = (do pure (Next.value (← Instr.buildSlice t len (parts.map fun p => (p.1, ρ p.2)))) : Sem Next) := by
  have h : parts.map (fun p => (p.1, ρ p.2)) = parts.map (fun (i, x) => (i, ρ x)) := rfl
  rw [h]
  rfl
theorem new_run {F : Fr} {ρ : Operand → Value} {o : Oper} {v : Value} (hnew : (∃ t, o.op = .alloc t) ∨ ∃ t len parts, o.op = .buildSlice t len parts) (hv : Rev φ F ρ o.op.operands.toList) (hr : opA P F h o.op = some (v, h')) :
    ∃ i h1 cells cells' e, ∃ f : Nat → Value, h.newVar cells = some (i, h1) ∧ (h' = h1 ∨ h' = h1.tag i e) ∧ LRel φ cells cells' ∧ (∀ (ψ : Map) b, ψ i = some (b, 0, 0) → VRel ψ v (f b)) ∧
      ∀ w, (execOp ρ o).run P w = .ok (.value (f w.heap.size)) (w.alloc (.cells ⟨cells'⟩ e)) := by
  obtain ⟨dst, op, type, pos, after, guard⟩ := o
  simp only at hv hr hnew
  rcases hnew with ⟨t, rfl⟩ | ⟨t, len, parts, rfl⟩
  · simp only [opA] at hr
    split at hr
    · rename_i ti ht
      split at hr
      · rename_i z hz
        split at hr
        · rename_i i h2 hn
          simp only [Option.some.injEq, Prod.mk.injEq] at hr
          obtain ⟨rfl, rfl⟩ := hr
          obtain ⟨it, hit, hut, _, _, _, hzz⟩ := tiOf_ok ht
          obtain ⟨hz1, hz2, hz3⟩ := hzz z hz
          refine ⟨i, _, _, z.cells.toList, t, fun b => .pointer (some ⟨b, 0, none⟩), hn, by split <;> simp, (flat_rel hz2).cells, fun ψ b hb => VRel.ptr hb (Nat.zero_le _), fun w => ?_⟩
          have hex : execOp ρ ⟨dst, .alloc t, type, pos, after, guard⟩ = (do pure (Next.value (← Instr.alloc t true (.tuple #[]))) : Sem Next) := rfl
          rw [hex]
          simp only [Instr.alloc, Sem.run_bind, run_zeroValue' hit hz1, Result.andThen_ok, run_newVar', Sem.run_pure]
        · cases hr
      · cases hr
    · cases hr
  · simp only [opA] at hr
    have hp : L2 (fun (p q : Nat × Value) => p.1 = q.1 ∧ VRel φ p.2 q.2) (parts.toList.map fun p => (p.1, F.ev p.2)) (parts.map fun p => (p.1, ρ p.2)).toList := by
      rw [Array.toList_map]
      exact hv.pairs (fun p hp => by simp only [Op.operands]; simp; exact ⟨p.1, by simpa using hp⟩)
    obtain ⟨i, cells, cells', e, hn, hl, hvv, hrun⟩ := buildSlice_run (P := P) hp hr
    refine ⟨i, _, cells, cells', e, fun b => .slice (some ⟨b, 0, none⟩) len (len + 0), hn, .inl rfl, hl, hvv, fun w => ?_⟩
    rw [execOp_buildSlice]
    simp only [Sem.run_bind, hrun, Result.andThen_ok, Sem.run_pure]
set_option maxHeartbeats 1000000 in
theorem mapNil_inv {y : Value} (h : VRel φ (.map none) y) : y = .map none := by cases h; rfl
set_option maxHeartbeats 1000000 in
theorem opA_ok (H : HRel B0 w0 φ h w) {F : Fr} {ρ : Operand → Value} {o : Oper} {v : Value} (hv : Rev φ F ρ o.op.operands.toList) (hr : opA P F h o.op = some (v, h')) :
    ∃ ψ v' w', Gives (execOp ρ o) P w v' w' ∧ φ.le ψ ∧ VRel ψ v v' ∧ HRel B0 w0 ψ h' w' := by
  obtain ⟨dst, op, type, pos, after, guard⟩ := o
  simp only at hv hr
  have Q : ∀ (s : Sem Value), execOp ρ ⟨dst, op, type, pos, after, guard⟩ = (do pure (Next.value (← s)) : Sem Next) → Out B0 w0 φ s P w v h' →
      ∃ ψ v' w', Gives (execOp ρ ⟨dst, op, type, pos, after, guard⟩) P w v' w' ∧ φ.le ψ ∧ VRel ψ v v' ∧ HRel B0 w0 ψ h' w' := by
    rintro s hs ⟨ψ, v', w', h1, h2⟩
    rw [hs]
    exact ⟨ψ, v', w', .inl (by simp only [Sem.run_bind, h1, Result.andThen_ok, Sem.run_pure]), h2⟩
  unfold opA at hr
  split at hr
  · rename_i t
    split at hr
    · rename_i ti ht
      split at hr
      · rename_i z hz
        split at hr
        · rename_i i h2 hn
          simp only [Option.some.injEq, Prod.mk.injEq] at hr
          obtain ⟨rfl, rfl⟩ := hr
          exact Q (Instr.alloc t true (.tuple #[])) rfl (alloc_ok H ht hz hn)
        · cases hr
      · cases hr
    · cases hr
  · rename_i t x
    split at hr
    · rename_i i h2 hn
      simp only [Option.some.injEq, Prod.mk.injEq] at hr
      obtain ⟨rfl, rfl⟩ := hr
      exact Q (Instr.box t (ρ x)) rfl (box_ok H (hv x (by simp [Op.operands])) hn)
    · cases hr
  · rename_i t len parts
    have hp : L2 (fun (p q : Nat × Value) => p.1 = q.1 ∧ VRel φ p.2 q.2) (parts.toList.map fun p => (p.1, F.ev p.2)) (parts.map fun p => (p.1, ρ p.2)).toList := by
      rw [Array.toList_map]
      exact hv.pairs (fun p hp => by simp only [Op.operands]; simp; exact ⟨p.1, by simpa using hp⟩)
    have ho := buildSlice_ok (P := P) H hp hr
    have Q2 := Q (Instr.buildSlice t len (parts.map fun p => (p.1, ρ p.2))) (execOp_buildSlice ..)
    exact Q2 ho
  · rename_i t a x
    split at hr
    · rename_i h2 hs
      simp only [Option.some.injEq, Prod.mk.injEq] at hr
      obtain ⟨rfl, rfl⟩ := hr
      obtain ⟨w', h1, h3⟩ := storeV_ok (P := P) H (hv a (by simp [Op.operands])) (hv x (by simp [Op.operands])) hs
      exact ⟨φ, undef, w', .inr ⟨rfl, by simp only [execOp, Sem.run_bind, h1, Result.andThen_ok, Sem.run_pure]⟩, φ.le_refl, VRel.undef, h3⟩
    · cases hr
  · rename_i s d x
    exact Q (convert s d (ρ x)) rfl (convA_ok H (hv x (by simp [Op.operands])) hr)
  · rename_i t
    simp only [Option.some.injEq, Prod.mk.injEq] at hr
    obtain ⟨rfl, rfl⟩ := hr
    obtain ⟨ψ, h1, h2, h3⟩ := H.newMap
    refine Q (Instr.makeMap t none) rfl ⟨ψ, .map (some w.heap.size), _, ?_, h1, .map h2, h3⟩
    simp [Instr.makeMap]
  · rename_i t x
    split at hr
    · rename_i ti k n ht hx
      obtain ⟨it, hit, hut, -⟩ := tiOf_ok ht
      split at hr
      · rename_i kt et hd
        rw [hd] at hut
        simp only [Option.some.injEq, Prod.mk.injEq] at hr
        obtain ⟨rfl, rfl⟩ := hr
        obtain ⟨ψ, h1, h2, h3⟩ := H.newMap
        have hxr := hv x (by simp [Op.operands])
        rw [hx] at hxr
        refine Q (Instr.makeMap t (some (ρ x))) rfl ⟨ψ, .map (some w.heap.size), _, ?_, h1, .map h2, h3⟩
        simp [Instr.makeMap, hxr.int_inv, run_underlying hut, asInt, asIntOf]
      · cases hr
    · cases hr
  · rename_i t l c
    exact Q (Instr.makeSlice t (ρ l) (ρ c)) rfl (makeSlice_ok H (hv l (by simp [Op.operands])) (hv c (by simp [Op.operands])) hr)
  · rename_i t x lo hi mx
    exact Q (Instr.sliceAt t (ρ x) (lo.map ρ) (hi.map ρ) (some (ρ mx))) rfl (sliceA_ok H (hv x (by simp [Op.operands])) (hv.opt (x := lo) (fun y hy => by subst hy; simp [Op.operands])) (hv.opt (x := hi) (fun y hy => by subst hy; simp [Op.operands])) (hv mx (by simp [Op.operands])) hr)
  · rename_i t m k x
    split at hr
    · rename_i h2 hs
      simp only [Option.some.injEq, Prod.mk.injEq] at hr
      obtain ⟨rfl, rfl⟩ := hr
      obtain ⟨w', h1, h3⟩ := mapUpd_ok (P := P) H (hv m (by simp [Op.operands])) (hv k (by simp [Op.operands])) (hv x (by simp [Op.operands])) hs
      exact ⟨φ, undef, w', .inr ⟨rfl, by simp only [execOp, Sem.run_bind, h1, Result.andThen_ok, Sem.run_pure]⟩, φ.le_refl, VRel.undef, h3⟩
    · cases hr
  · rename_i t m k x
    split at hr
    · rename_i h2 hs
      simp only [Option.some.injEq, Prod.mk.injEq] at hr
      obtain ⟨rfl, rfl⟩ := hr
      obtain ⟨w', h1, h3⟩ := mapUpd_ok (P := P) H (hv m (by simp [Op.operands])) (hv k (by simp [Op.operands])) (hv x (by simp [Op.operands])) hs
      exact ⟨φ, undef, w', .inr ⟨rfl, by simp only [execOp, Sem.run_bind, h1, Result.andThen_ok, Sem.run_pure]⟩, φ.le_refl, VRel.undef, h3⟩
    · cases hr
  · rename_i t m k
    split at hr
    · rename_i old j hl hx
      split at hr
      · rename_i h2 hs
        simp only [Option.some.injEq, Prod.mk.injEq] at hr
        obtain ⟨rfl, rfl⟩ := hr
        obtain ⟨o', w1, h1, h2, h3⟩ := mapEntry_ok (P := P) H (hv m (by simp [Op.operands])) (hv k (by simp [Op.operands])) hl hx hs
        exact Q (Instr.mapEntry t (ρ m) (ρ k)) rfl ⟨φ, .tuple #[o', goInt j], w1, h1, φ.le_refl, VRel.tuple' (L2.cons h2 (L2.cons (.int _ _) L2.nil)), h3⟩
      · cases hr
    · cases hr
  · rename_i t m s x
    split at hr
    · rename_i z hz
      split at hr
      · rename_i h2 hs
        simp only [Option.some.injEq, Prod.mk.injEq] at hr
        obtain ⟨rfl, rfl⟩ := hr
        have hsr := hv s (by simp [Op.operands])
        rw [hz] at hsr
        obtain ⟨w', h1, h3⟩ := entryStore_ok (P := P) (t := t) H (hv m (by simp [Op.operands])) (hv x (by simp [Op.operands])) hs
        exact ⟨φ, undef, w', .inr ⟨rfl, by simp only [execOp, Sem.run_bind, hsr.int_inv, h1, Result.andThen_ok, Sem.run_pure]⟩, φ.le_refl, VRel.undef, h3⟩
      · cases hr
    · cases hr
  · rename_i b args ats
    obtain ⟨ψ, v', w', h1, h2⟩ := builtinA_ok (P := P) (ty := type) (cs := args.map fun | .const _ => true | _ => false) H (hv.vals (m := args) (fun x hx => by simpa [Op.operands, Call.operands] using hx)) hr
    refine ⟨ψ, v', w', .inl ?_, h2⟩
    simp only [execOp, resolve, Sem.run_bind, Sem.run_pure, Result.andThen_ok, invoke]
    exact h1
  · rename_i t x
    split at hr
    · rename_i ti ht
      split at hr
      · rename_i k e hu hx
        simp only [Option.some.injEq, Prod.mk.injEq] at hr
        obtain ⟨rfl, rfl⟩ := hr
        obtain ⟨it, hit, hut, -⟩ := tiOf_ok ht
        rw [hu] at hut
        have hxr := hv x (by simp [Op.operands])
        rw [hx] at hxr
        obtain ⟨hle, H'⟩ := H.iter
        have hxe : ρ x = .map none := mapNil_inv hxr
        refine Q (Instr.range t (ρ x)) rfl ⟨_, .pointer (some ⟨w.heap.size, 0, none⟩), _, ?_, hle, VRel.ptr (off := 0) (Map.add_same _ _ _) (Nat.zero_le _), H'⟩
        simp only [Instr.range, hxe, Sem.run_bind, run_underlying hut, Result.andThen_ok, Sem.run_pure, run_newObj]
        rfl
      · cases hr
    · cases hr
  · rename_i it s
    split at hr
    · rename_i i hit
      split at hr
      · rename_i hits
        simp only [Option.some.injEq, Prod.mk.injEq] at hr
        obtain ⟨rfl, rfl⟩ := hr
        have hxr := hv it (by simp [Op.operands])
        rw [hit] at hxr
        obtain ⟨_, b, σ, κ, hp, hσ, hx⟩ := hxr.ptr_inv
        have hb := (H.ty.2.1 i hits).2 b σ κ hp
        refine Q (Instr.next (ρ it) false type) rfl ⟨φ, .tuple #[.bool false], w, ?_, φ.le_refl, VRel.tuple' (L2.cons (.bool false) L2.nil), H⟩
        have h0 : 0 - σ = 0 := Nat.zero_sub σ
        rw [hx, h0]
        simp [Instr.next, getObj, Sem.run, hb]
      · cases hr
    · cases hr
  · cases hr
theorem opV_ok (H : HRel B0 w0 φ h w) {F : Fr} {ρ : Operand → Value} {o : Oper} {v : Value} (hv : Rev φ F ρ o.op.operands.toList) (hr : opV P F h o.op = some (v, h')) :
    ∃ ψ v' w', Gives (execOp ρ o) P w v' w' ∧ φ.le ψ ∧ VRel ψ v v' ∧ HRel B0 w0 ψ h' w' := by
  unfold opV at hr
  split at hr
  · rename_i v2 hq
    simp only [Option.some.injEq, Prod.mk.injEq] at hr
    obtain ⟨rfl, rfl⟩ := hr
    obtain ⟨v', h1, h2⟩ := opQ_ok H hv hq
    exact ⟨φ, v', w, .inl h1, φ.le_refl, h2, H⟩
  · exact opA_ok H hv hr
end Go.Abs
end

section
/- Deferred functions that only look whether there is a panic; a library function without a body. -/
open Go.RowKit
namespace Go.Abs
variable {P : Program}
theorem put_eval {a : Act} {t : Nat} {v : Value} (h : t < a.tmps.size) : (a.put (some t) v).eval (.tmp t) = v := by
  simp only [Act.put, Act.eval]
  rw [Array.getD_eq_getD_getElem?, Array.getElem?_setIfInBounds_self, if_pos h]
  rfl
theorem put_size (a : Act) (d : Option Tmp) (v : Value) : (a.put d v).tmps.size = a.tmps.size := by
  cases d <;> simp [Act.put]
theorem put_defs (a : Act) (d : Option Tmp) (v : Value) : (a.put d v).defers = a.defers := by cases d <;> rfl
theorem arr1 {α : Type} {r : Array α} {o : α} (h : r.toList = [o]) : r = #[o] := by
  obtain ⟨l⟩ := r; simp only at h; rw [h]
theorem wanted_none {o : Oper} (h : o.guard = none) (y : Nat → Option Bool) : Region.wanted o y = true := by unfold Region.wanted; rw [h]
theorem opsS_rec {Q : Exit → Act → List Frame → World → Prop} {a : Act} {cs : List Frame} {w : World} {o : Oper} (hg : o.guard = none) (hx : (execOp a.eval o).run P w = .ok .recover w) (hrec : recoverD cs = none) (H : Q .normal (a.put o.dst .nilIface) cs w) : wpOpsS P #[o] Q (List.range (#[o] : Array Oper).size) a cs w := by
  show wpOpsS P #[o] Q [0] a cs w
  have h0 : (#[o] : Array Oper)[0]? = some o := rfl
  simp only [wpOpsS, h0]
  rw [if_pos (wanted_none hg _), hx]
  simp only [hrec]
  exact H
theorem ops_val {Q : Exit → Act → World → Prop} {a : Act} {w : World} {o : Oper} {v : Value} (hg : o.guard = none) (hx : (execOp a.eval o).run P w = .ok (.value v) w) (H : Q .normal (a.put o.dst v) w) : wpOps P #[o] Q (List.range (#[o] : Array Oper).size) a w := by
  show wpOps P #[o] Q [0] a w
  have h0 : (#[o] : Array Oper)[0]? = some o := rfl
  simp only [wpOps, h0]
  rw [if_pos (wanted_none hg _)]
  refine .inl ?_
  unfold Oper.wp
  rw [hx, Oper.upon_value]
  exact H
theorem guard_calls {g : FuncId} (hg : guardFn P g = true) (args : Array Value) (w : World) :
    CallsD P g args .returning w fun e u' w' => e = .returned (.tuple #[]) ∧ u' = .returning ∧ w' = w := by
  unfold guardFn at hg
  split at hg
  rotate_left
  · cases hg
  rename_i fn hfn
  split at hg
  rotate_left
  · cases hg
  rename_i c0 i0 r0 ib i1 r1 c i2 r2 els hb hres
  split at hg
  rotate_left
  · cases hg
  rename_i t a0 at0 ty0 po0 af0 b ty a tyy ty1 po1 af1 d2 x2 ty2 po2 af2 h0 h1 h2
  simp only [Bool.and_eq_true] at hg
  obtain ⟨⟨⟨⟨⟨e1, e2⟩, e3⟩, e4⟩, _⟩, e5⟩ := hg
  have e1 : t = a := Nat.eq_of_beq_eq_true e1
  have e2 : b = c := Nat.eq_of_beq_eq_true e2
  subst e1 e2
  have e3 : t < fn.ntmps := Nat.lt_of_lt_of_le (Nat.lt_succ_self _) (Nat.le_of_ble_eq_true e3)
  have e4 : b < fn.ntmps := Nat.lt_of_lt_of_le (Nat.lt_succ_self _) (Nat.le_of_ble_eq_true e4)
  have hbin : binV P .eql ty true .nilIface .nilIface = some (.bool true) := by
    split at e5
    · rename_i h; exact h
    · cases e5
  refine callsD_of_wpS hfn hb fun c₀ cs hu => ?_
  have hsz : ∀ x, x < fn.ntmps → x < (args ++ Array.replicate (fn.ntmps - args.size) undef).size := fun x hx => by simp; omega
  generalize (args ++ Array.replicate (fn.ntmps - args.size) undef) = tm at hsz
  refine wpS_seq (wpS_region ?_)
  rw [arr1 h0]
  have hrec : recoverD (c₀ :: cs) = none := by simp [recoverD, hu]
  refine opsS_rec rfl rfl hrec ?_
  show (Code.block ib _).wpS P _ _ _ _
  refine wpS_of_wp (wp_block (wp_seq (wp_region ?_)))
  rw [arr1 h1]
  have ht : t < tm.size := hsz t e3
  have hb1 : (Act.put { tmps := tm, defers := [] } (some t) Value.nilIface).eval (.tmp t) = .nilIface := put_eval ht
  have hsz1 := put_size { tmps := tm, defers := [] } (some t) Value.nilIface
  have hdf1 := put_defs { tmps := tm, defers := [] } (some t) Value.nilIface
  generalize hA : (Act.put { tmps := tm, defers := [] } (some t) Value.nilIface) = a1 at hb1 hsz1 hdf1
  have hA : Act.put { tmps := tm, defers := [] } (some t) Value.nilIface = a1 := hA
  refine ops_val rfl (v := .bool true) ?_ ?_
  · have := (binV_ok (P := P) (w := w) (φ := fun _ => none) (o1 := .tmp t) (o2 := .const .nilIface) (x := .nilIface) (y := .nilIface) (x' := a1.eval (.tmp t)) (y' := a1.eval (.const .nilIface)) (by rw [hb1]; exact .nilIface) .nilIface (v := .bool true) hbin).1
    have Q : ∀ {s : Sem Value} {v'}, s.run P w = .ok v' w → (do pure (Next.value (← s)) : Sem Next).run P w = .ok (.value v') w := fun hs => by
      simp only [Sem.run_bind, hs, Result.andThen_ok, Sem.run_pure]
    exact Q this
  · have hb : b < a1.tmps.size := by rw [hsz1]; exact hsz b e4
    have hb2 : (a1.put (some b) (.bool true)).eval (.tmp b) = .bool true := put_eval hb
    have hdf2 := put_defs a1 (some b) (.bool true)
    show (Code.cond (.tmp b) (.region i2 r2 false) els).wp P _ (a1.put (some b) (.bool true)) w
    refine wp_cond_true hb2 (wp_region ?_)
    rw [arr1 h2]
    refine ops_val (v := (a1.put (some b) (.bool true)).eval x2) rfl rfl ?_
    refine ⟨by rw [put_defs, hdf2, hdf1], .returning, by rw [← hu], .tuple #[], ?_, rfl, rfl, rfl⟩
    have : fn.results = #[] := by
      have := hres
      cases h : fn.results with
      | mk l => rw [h] at this; simp only at this; rw [this]
    exact results_none this _ _ _
def GuardD (P : Program) (d : Deferred) : Prop := ∃ g cap, d.target = .fn (.func g) cap ∧ guardFn P g = true
def GrdLe (P : Program) (new old : List Deferred) : Prop := ∃ ds, new = ds ++ old ∧ ∀ d, d ∈ ds → GuardD P d
theorem GrdLe.of_eq {x y : List Deferred} (h : x = y) : GrdLe P x y := ⟨[], h, fun _ h => by simp at h⟩
theorem GrdLe.refl {x : List Deferred} : GrdLe P x x := .of_eq rfl
theorem GrdLe.trans {x y z : List Deferred} (h : GrdLe P x y) (k : GrdLe P y z) : GrdLe P x z := by
  obtain ⟨a, rfl, ha⟩ := h
  obtain ⟨b, rfl, hb⟩ := k
  exact ⟨a ++ b, by simp, fun d hd => (List.mem_append.1 hd).elim (ha d) (hb d)⟩
theorem guard_name {g : FuncId} (hg : guardFn P g = true) : ∃ fn, P.funcs[g]? = some fn ∧ (fn.name == "runtime.NumGoroutine") = false ∧ fn.body.isNone = false := by
  unfold guardFn at hg
  split at hg
  rotate_left
  · cases hg
  rename_i fn hfn
  split at hg
  rotate_left
  · cases hg
  rename_i hb hres
  split at hg
  rotate_left
  · cases hg
  simp only [Bool.and_eq_true, Bool.not_eq_true'] at hg
  exact ⟨fn, hfn, hg.1.2, by rw [hb]; rfl⟩
def LeavesX (P : Program) (fn : Func) (tmps : Array Value) (R : Ending → World → Prop) : List Deferred → FrameMode → World → Prop
  | [], u, w => Leaves P fn tmps R [] u w
  | d :: ds, u, w => u ≠ .run ∧
      ((∃ r w', d.target = .collected r ∧ (Instr.takeDeferred r).run P w = .ok [] w' ∧ LeavesX P fn tmps R ds u w') ∨
       (∃ fv cap f args, d.target = .fn fv cap ∧ (invoke d.target d.args).run P w = .ok (.enter f args) w ∧
        CallsD P f args u w fun
          | .returned _, u', w' => LeavesX P fn tmps R ds (settle u') w'
          | .panicked chain, u', w' => LeavesX P fn tmps R ds (raised u' chain) w'
          | .outgrown, _, w' => R .outgrown w'))
theorem leavesX_steps {fn : Func} {tmps : Array Value} {R : Ending → World → Prop} : ∀ (ds : List Deferred) (u : FrameMode) (w : World) (fr : Frame)
    (cs : List Frame), fr.mode = u → fr.defers = ds → fr.tmps = tmps → P.funcs[fr.fn]? = some fn → fr.kind = .normal → LeavesX P fn tmps R ds u w →
    ∃ e w' fr', R e w' ∧ Comes P (lone fr cs w) (lone fr' cs w') e ∧ fr'.fn = fr.fn ∧ fr'.leaving P w' e := by
  intro ds
  induction ds with
  | nil => exact fun u w fr cs hu hd ht hf hk h => leaves_steps [] u w fr cs hu hd ht hf hk h
  | cons d ds ih =>
    intro u w fr cs hu hd ht hf hk h
    obtain ⟨hrun, h⟩ := h
    rcases h with ⟨r, w', htar, htake, hrest⟩ | ⟨fv, cap, f, args, htar, hinv, hcall⟩
    · have h1 := step_collected (cs := cs) (hu ▸ hrun) hd htar htake
      obtain ⟨e', w'', fr', hR', hs', hfn', hl'⟩ := ih u w' { fr with defers := [] ++ ds } cs hu rfl ht hf hk hrest
      exact ⟨e', w'', fr', hR', Comes.of_steps (.one h1) hs', hfn', hl'⟩
    · have h1 := step_defer (cs := cs) (hu ▸ hrun) hd htar hinv
      obtain ⟨e, u', w', frX, hR, hsteps, hkX, hgo⟩ := hcall { fr with defers := ds } cs hu
      cases e with
      | returned v =>
        have h2 := step_going_returned (c := { { fr with defers := ds } with mode := u' }) (cs := cs) hkX hgo
        obtain ⟨e', w'', fr', hR', hs', hfn', hl'⟩ := ih (settle u') w' { { { fr with defers := ds } with mode := u' } with mode := settle u' } cs rfl rfl ht hf hk hR
        exact ⟨e', w'', fr', hR', Comes.of_steps (.head h1 (Steps.trans hsteps (.one h2))) hs', hfn', hl'⟩
      | panicked chain =>
        have h2 := step_going_panicked (c := { { fr with defers := ds } with mode := u' }) (cs := cs) hgo
        obtain ⟨e', w'', fr', hR', hs', hfn', hl'⟩ := ih (raised u' chain) w' { { { fr with defers := ds } with mode := u' } with mode := raised u' chain } cs rfl rfl ht hf hk hR
        exact ⟨e', w'', fr', hR', Comes.of_steps (.head h1 (Steps.trans hsteps (.one h2))) hs', hfn', hl'⟩
      | outgrown => exact ⟨.outgrown, w', fr, hR, Outgrown.of_steps (.one h1) hsteps, rfl, trivial⟩
def bodyPostX (P : Program) (fn : Func) (R : Ending → World → Prop) : Exit → Act → World → Prop
  | .normal, a, w | .ret, a, w => LeavesX P fn a.tmps R a.defers .returning w
  | .panic chain, a, w => LeavesX P fn a.tmps R a.defers (.panicking chain) w
  | .outgrown, _, w => R .outgrown w
  | _, _, _ => False
theorem calls_of_wp_X {f : FuncId} {fn : Func} {c : Code} {args : Array Value} {w : World} {R : Ending → World → Prop}
    (hf : P.funcs[f]? = some fn) (hb : fn.body = some c)
    (h : c.wp P (bodyPostX P fn R) { tmps := args ++ Array.replicate (fn.ntmps - args.size) undef, defers := [] } w) : Calls P f args w R := by
  intro cs
  let b : Frame := { (default : Frame) with fn := f, kind := .normal }
  have henter : Frame.enter P f args .normal = b.at { tmps := args ++ Array.replicate (fn.ntmps - args.size) undef, defers := [] } [.code c] := by
    simp [Frame.enter, Frame.at, hf, hb, b]
  obtain ⟨e, a', w', hq, harr⟩ := h b [] cs
  rw [← henter] at harr
  cases e with
  | normal =>
    obtain ⟨e', w'', fr', hR, hs, hfn, hl⟩ := leavesX_steps a'.defers .returning w' { b.at a' [] with mode := .returning } cs rfl rfl rfl hf rfl hq
    exact ⟨e', w'', fr', hR, Comes.of_steps (Steps.trans harr (.one step_end)) hs, hfn, hl⟩
  | ret =>
    obtain ⟨todo, hs₀⟩ := harr
    obtain ⟨e', w'', fr', hR, hs, hfn, hl⟩ := leavesX_steps a'.defers .returning w' { b.at a' todo with mode := .returning } cs rfl rfl rfl hf rfl hq
    exact ⟨e', w'', fr', hR, Comes.of_steps hs₀ hs, hfn, hl⟩
  | panic chain =>
    obtain ⟨todo, hs₀⟩ := harr
    obtain ⟨e', w'', fr', hR, hs, hfn, hl⟩ := leavesX_steps a'.defers (.panicking chain) w' { b.at a' todo with mode := .panicking chain } cs rfl rfl rfl hf rfl hq
    exact ⟨e', w'', fr', hR, Comes.of_steps hs₀ hs, hfn, hl⟩
  | exit id => exact hq.elim
  | goto l => exact hq.elim
  | outgrown => exact ⟨.outgrown, w', b, hq, harr.resolve_left (by simp [b]), rfl, trivial⟩
theorem same_run {f : FuncId} (hs : sameFn P f = true) (x : Value) (w : World) : (callFunc f #[x]).run P w = .ok (.value x) w := by
  unfold sameFn at hs
  split at hs
  · rename_i fn hfn
    simp only [Bool.and_eq_true, beq_iff_eq] at hs
    obtain ⟨⟨hb, hn⟩, hx⟩ := hs
    have hne : (fn.name == "runtime.NumGoroutine") = false := by rw [hn]; decide
    have h1 : Extern.allGenericRows.lookup "internal/abi.NoEscape" = none := by kernel_rfl
    have h2 : Extern.allTypedRows.lookup "internal/abi.NoEscape" = none := by kernel_rfl
    have h3 : Extern.allRows.lookup "internal/abi.NoEscape" = some Extern.AbiNoEscape.same := by kernel_rfl
    rw [run_callFunc_extern hfn hne hb (by simpa using hx) (e := Extern.AbiNoEscape.same) (by unfold Extern.find; rw [hn]; simp only [h1, h2, h3]; rfl)]
    rw [Lib.run_noEscape]; rfl
  · cases hs
theorem idxB_eq : ∀ (l : List UInt8) (c : UInt8), idxB l c = Lib.indexByte l c
  | [], _ => rfl
  | b :: l, c => by unfold idxB Lib.indexByte; rw [idxB_eq l c]
theorem idx_run {f : FuncId} (hs : idxFn P f = true) (s : ByteArray) (c : Int) (w : World) : (callFunc f #[.string s, .int .u8 c]).run P w = .ok (.value (.int .i64 (idxB s.data.toList c.toNat.toUInt8))) w := by
  unfold idxFn at hs
  split at hs
  · rename_i fn hfn
    simp only [Bool.and_eq_true, beq_iff_eq] at hs
    obtain ⟨⟨hb, hn⟩, hx⟩ := hs
    have hne : (fn.name == "runtime.NumGoroutine") = false := by rw [hn]; decide
    have h1 : Extern.allGenericRows.lookup "internal/bytealg.IndexByteString" = none := by kernel_rfl
    have h2 : Extern.allTypedRows.lookup "internal/bytealg.IndexByteString" = none := by kernel_rfl
    have h3 : Extern.allRows.lookup "internal/bytealg.IndexByteString" = some Extern.BytealgIndexByte.indexByte := by kernel_rfl
    rw [run_callFunc_extern hfn hne hb (by simpa using hx) (e := Extern.BytealgIndexByte.indexByte) (by unfold Extern.find; rw [hn]; simp only [h1, h2, h3]; rfl)]
    rw [Lib.run_indexByteString, idxB_eq]; rfl
  · cases hs
theorem cnt_run {f : FuncId} (hs : cntFn P f = true) (s : ByteArray) (c : Int) (w : World) : (callFunc f #[.string s, .int .u8 c]).run P w = .ok (.value (.int .i64 ((s.data.toList.count c.toNat.toUInt8 : Nat) : Int))) w := by
  unfold cntFn at hs
  split at hs
  · rename_i fn hfn
    simp only [Bool.and_eq_true, beq_iff_eq] at hs
    obtain ⟨⟨hb, hn⟩, hx⟩ := hs
    have hne : (fn.name == "runtime.NumGoroutine") = false := by rw [hn]; decide
    have h1 : Extern.allGenericRows.lookup "internal/bytealg.CountString" = none := by kernel_rfl
    have h2 : Extern.allTypedRows.lookup "internal/bytealg.CountString" = none := by kernel_rfl
    have h3 : Extern.allRows.lookup "internal/bytealg.CountString" = some Extern.BytealgCount.count := by kernel_rfl
    rw [run_callFunc_extern hfn hne hb (by simpa using hx) (e := Extern.BytealgCount.count) (by unfold Extern.find; rw [hn]; simp only [h1, h2, h3]; rfl)]
    rw [Lib.run_countString]; rfl
  · cases hs
theorem mnz_run {f : FuncId} {e : TypeId} (hs : mnzFn P f = some e) {n : Nat} (hn : n ≤ 281474976710656) (w : World) : ∃ cs : Array Value, (callFunc f #[.int .i64 (n : Int)]).run P w = .ok (.value (.slice (some ⟨w.heap.size, 0, none⟩) n cs.size)) (w.drew.drew.alloc (.cells cs e)) := by
  unfold mnzFn at hs
  split at hs
  rotate_left
  · cases hs
  rename_i fn hfn
  split at hs
  rotate_left
  · cases hs
  rename_i hx
  split at hs
  rotate_left
  · cases hs
  rename_i t hrt
  split at hs
  rotate_left
  · cases hs
  rename_i ti hti
  split at hs
  rotate_left
  · cases hs
  rename_i e' hu
  simp only [Option.some.injEq] at hs
  subst hs
  simp only [Bool.and_eq_true, beq_iff_eq] at hx
  obtain ⟨⟨hb, hnm⟩, hx⟩ := hx
  obtain ⟨it, hit, hut, -⟩ := tiOf_ok hti
  rw [hu] at hut
  have hrt : fn.resultTypes = #[t] := arr1 hrt
  obtain ⟨cs, hr, _, _⟩ := Lib.run_makeNoZero (P := P) w fn.params t e' hut n hn
  have hne : (fn.name == "runtime.NumGoroutine") = false := by rw [hnm]; decide
  have h1 : Extern.allGenericRows.lookup "internal/bytealg.MakeNoZero" = none := by kernel_rfl
  have h2 : Extern.allTypedRows.lookup "internal/bytealg.MakeNoZero" = some Extern.BytealgMakeNoZero.makeNoZero := by kernel_rfl
  refine ⟨cs, ?_⟩
  rw [run_callFunc_extern hfn hne hb (by simpa using hx) (e := Extern.BytealgMakeNoZero.makeNoZero fn.params fn.resultTypes) (by unfold Extern.find; rw [hnm]; simp only [h1, h2]; rfl), hrt, hr]
  rfl
end Go.Abs
end
