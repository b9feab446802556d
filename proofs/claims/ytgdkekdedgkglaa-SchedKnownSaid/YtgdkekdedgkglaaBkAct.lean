/- The operations that make memory or turn it, held against the model's. -/
import Derived.Test.YtgdkekdedgkglaaBkOps3
open Go.RowKit
namespace Go.Abs
variable {B0 : Nat} {w0 : World} {φ : Map} {h h' : AW} {w : World} {P : Program}

theorem rep_length (l : List Value) : ∀ n, (rep l n).length = n * l.length
  | 0 => by simp [rep]
  | n + 1 => by simp [rep, rep_length l n, Nat.add_mul]; omega
theorem rep_get (l : List Value) : ∀ (n i : Nat), i < n * l.length → (rep l n)[i]? = l[i % l.length]?
  | 0, i, h => by simp at h
  | n + 1, i, h => by
    simp only [rep]
    by_cases hi : i < l.length
    · rw [List.getElem?_append_left hi, Nat.mod_eq_of_lt hi]
    · have hle : l.length ≤ i := Nat.le_of_not_lt hi
      rw [List.getElem?_append_right hle, rep_get l n (i - l.length) (by rw [Nat.add_mul] at h; omega), Nat.mod_eq_sub_mod hle]
theorem rep_range (z : Array Value) (n : Nat) : (Array.range (n * z.size)).map (fun i => z[i % z.size]!) = ⟨rep z.toList n⟩ := by
  apply Array.ext'
  apply List.ext_getElem?
  intro i
  by_cases hi : i < n * z.size
  · have hpos : 0 < z.size := (Nat.eq_zero_or_pos z.size).elim (fun h => by rw [h] at hi; simp at hi) id
    have hm : i % z.size < z.size := Nat.mod_lt _ hpos
    have h2 := rep_get z.toList n i (by simpa using hi)
    simp only [Array.length_toList] at h2
    rw [h2]
    simp [hi, hm]
  · have h1 : (rep z.toList n)[i]? = none := List.getElem?_eq_none (by rw [rep_length]; simp; omega)
    rw [h1]
    simp; omega
theorem rep_flat {z : Value} (hz : flat z = true) (n : Nat) : LRel φ (rep z.cells.toList n) (rep z.cells.toList n) := by
  induction n with
  | zero => exact L2.nil
  | succ n ih => exact L2.append (flat_rel hz).cells ih

theorem wrap_nat {n : Nat} (h : n ≤ 9223372036854775807) : IntKind.i64.wrap (n : Int) = n := by
  have e1 : (2 : Int) ^ IntKind.i64.bits = 18446744073709551616 := by decide
  have e2 : (2 : Int) ^ (IntKind.i64.bits - 1) = 9223372036854775808 := by decide
  unfold IntKind.wrap
  rw [e1, e2]
  simp only [IntKind.signed, Bool.true_and, decide_eq_true_eq]
  have : (n : Int) % 18446744073709551616 = n := by omega
  rw [this, if_neg (by omega)]

theorem run_newVar' (t : TypeId) (v : Value) : (newVar t v).run P w = .ok ⟨w.heap.size, 0, none⟩ (w.alloc (.cells v.cells t)) := by
  simp [newVar, newRow]

def Out (B0 : Nat) (w0 : World) (φ : Map) (s : Sem Value) (P : Program) (w : World) (v : Value) (h' : AW) : Prop :=
  ∃ ψ v' w', s.run P w = .ok v' w' ∧ φ.le ψ ∧ VRel ψ v v' ∧ HRel B0 w0 ψ h' w'

theorem alloc_ok (H : HRel B0 w0 φ h w) {t : TypeId} {ti : TI} {z : Value} {i : Nat} (ht : tiOf P t = some ti) (hz : ti.zero = some z) (hn : h.newVar z.cells.toList = some (i, h')) :
    Out B0 w0 φ (Instr.alloc t true (.tuple #[])) P w (ptr i 0) h' := by
  obtain ⟨it, hit, hut, _, _, _, hzz⟩ := tiOf_ok ht
  obtain ⟨hz1, hz2, hz3⟩ := hzz z hz
  obtain ⟨ψ, h1, h2, h3⟩ := H.newVar hn (flat_rel hz2).cells t
  refine ⟨ψ, .pointer (some ⟨w.heap.size, 0, none⟩), _, ?_, h1, VRel.ptr h2 (Nat.zero_le _), h3⟩
  simp only [Instr.alloc, Sem.run_bind, run_zeroValue' hit hz1, Result.andThen_ok, run_newVar', Sem.run_pure]

theorem box_ok (H : HRel B0 w0 φ h w) {t : TypeId} {x x' : Value} {i : Nat} (hx : VRel φ x x') (hn : h.newVar x.cells.toList = some (i, h')) :
    Out B0 w0 φ (Instr.box t x') P w (ptr i 0) h' := by
  obtain ⟨ψ, h1, h2, h3⟩ := H.newVar hn hx.cells t
  refine ⟨ψ, .pointer (some ⟨w.heap.size, 0, none⟩), _, ?_, h1, VRel.ptr h2 (Nat.zero_le _), h3⟩
  simp only [Instr.box, Sem.run_bind, Result.andThen_ok, run_newVar', Sem.run_pure]

theorem buildSlice_ok (H : HRel B0 w0 φ h w) {t : TypeId} {len : Nat} {ps : List (Nat × Value)} {ps' : Array (Nat × Value)} {v : Value} (hp : L2 (fun (p q : Nat × Value) => p.1 = q.1 ∧ VRel φ p.2 q.2) ps ps'.toList)
    (hr : buildSliceV P h t len ps = some (v, h')) : Out B0 w0 φ (Instr.buildSlice t len ps') P w v h' := by
  unfold buildSliceV at hr
  split at hr
  · rename_i ti ht
    obtain ⟨it, hit, hut, -⟩ := tiOf_ok ht
    split at hr
    · rename_i elem hd
      rw [hd] at hut
      split at hr
      · rename_i te hte
        obtain ⟨ie, hie, hue, _, hsz, _, hz⟩ := tiOf_ok hte
        split at hr
        · rename_i z hzz hble
          obtain ⟨hz1, hz2, hz3⟩ := hz z hzz
          split at hr
          · rename_i hbz
            split at hr
            · rename_i cs hcs
              split at hr
              · rename_i i h2 hn
                simp only [Option.some.injEq, Prod.mk.injEq] at hr
                obtain ⟨rfl, rfl⟩ := hr
                obtain ⟨r', hf, hrel⟩ := fill_rel _ _ _ _ _ hp (rep_flat hz2 len) hcs
                obtain ⟨ψ, h1, h2', h3⟩ := H.newVar hn hrel elem
                refine ⟨ψ, .slice (some ⟨w.heap.size, 0, none⟩) len (len + 0), _, ?_, h1, VRel.slice h2' (Nat.zero_le _) (.inl rfl), h3⟩
                have hle := ble_true hble
                have hfill : Instr.fill (fun i => some (i * ie.size, ie.size)) ((Array.range (len * ie.size)).map ((if len * ie.size = 0 then #[] else z.cells)[· % (if len * ie.size = 0 then #[] else z.cells).size]!)) ps'.toList = some r' := by
                  rw [← hsz]
                  by_cases h0 : len * te.size = 0
                  · simp only [h0, if_true]
                    have : rep z.cells.toList len = [] := List.eq_nil_of_length_eq_zero (by rw [rep_length]; simp [hz3, h0])
                    rw [this] at hf
                    have e : (Array.map (fun x => (#[] : Array Value)[x % (#[] : Array Value).size]!) (Array.range 0)) = ⟨[]⟩ := by simp
                    rw [e]; exact hf
                  · simp only [h0, if_false]
                    have e := rep_range z.cells len
                    rw [hz3] at e
                    rw [hz3, e]
                    exact hf
                simp only [Instr.buildSlice, Sem.run_bind, run_underlying hut, Result.andThen_ok, run_sizeOf' hie, ← hsz]
                rw [if_neg (by omega)]
                rw [← hsz] at hfill
                by_cases h0 : len * te.size = 0
                · simp only [h0, if_true] at hfill ⊢
                  simp only [Sem.run_bind, Sem.run_pure, Result.andThen_ok]
                  rw [hfill]
                  simp [newRow]
                · simp only [h0, if_false] at hfill ⊢
                  simp only [Sem.run_bind, run_zeroValue' hie hz1, Sem.run_pure, Result.andThen_ok]
                  rw [hfill]
                  simp [newRow]
              · cases hr
            · cases hr
          · cases hr
        · cases hr
      · cases hr
    · cases hr
  · cases hr

theorem store_ok (H : HRel B0 w0 φ h w) {t : TypeId} {a a' v v' : Value} (ha : VRel φ a a') (hv : VRel φ v v') (hs : storeV P h t a v = some h') :
    ∃ w', (Instr.storeAt t a' v').run P w = .ok () w' ∧ HRel B0 w0 φ h' w' := storeV_ok H ha hv hs

theorem ofBytes_rel (l : List UInt8) : LRel φ (ofBytes l) (ofBytes l) := by
  induction l with
  | nil => exact L2.nil
  | cons b l ih => exact L2.cons (.int _ _) ih

theorem appendCap_ge {need old : Nat} {e : TypeId} {t : Nat} : need ≤ (Question.appendCap need old e).cut t := by simp [Question.cut]

theorem run_markStringish (w : World) (b n : Nat) : (markStringish ⟨b, 0, none⟩).run P w = .ok () (match w.shape? b with | some (_, n) => w.freeze ⟨b, n, none⟩ 1 | none => w) := by
  unfold markStringish
  simp only [Sem.run_bind, run_shape, Result.andThen_ok]
  cases w.shape? b with
  | none => rfl
  | some p => rfl

/-- The mark behind a fresh row's end turns no cell. -/
theorem HRel.mark {b : Nat} {c : Array Value} {e : TypeId} (H : HRel B0 w0 φ h w) (hb : w.heap[b]? = some (.cells c e (0, 0))) (hB : B0 ≤ b) : HRel B0 w0 φ h (w.freeze ⟨b, c.size, none⟩ 1) := by
  have hblk : (w.freeze ⟨b, c.size, none⟩ 1).heap[b]? = some (.cells c e (c.size, c.size + 1)) := by
    simp only [World.freeze]
    rw [if_neg (by omega)]
    simp only [Array.getElem?_modify, if_true, hb, Option.map_some]
    rfl
  have hother : ∀ k, k ≠ b → (w.freeze ⟨b, c.size, none⟩ 1).heap[k]? = w.heap[k]? := by
    intro k hk
    simp only [World.freeze]
    rw [if_neg (by omega)]
    simp only [Array.getElem?_modify]
    rw [if_neg (fun e => hk e.symm)]
  have hcell : ∀ a : Addr, (w.freeze ⟨b, c.size, none⟩ 1).cell? a = w.cell? a := by
    intro a
    by_cases hab : a.block = b
    · simp only [World.cell?, hab, hblk, hb]
    · simp only [World.cell?, hother _ hab]
  have hfr : ∀ k : Nat, k < c.size → (w.freeze ⟨b, c.size, none⟩ 1).frozen? ⟨b, k, none⟩ = false := by
    intro k hk
    simp only [World.frozen?, hblk]
    simp
    omega
  have hsz : (w.freeze ⟨b, c.size, none⟩ 1).heap.size = w.heap.size := by
    simp only [World.freeze]; rw [if_neg (by omega)]; simp
  have hin : ∀ k u, w.cell? ⟨b, k, none⟩ = some u → k < c.size := by
    intro k u hu
    simp only [World.cell?, hb] at hu
    simp at hu
    exact (Array.getElem?_eq_some_iff.1 hu).1
  refine ⟨H.base, Below.growTo H.below (by simp [World.freeze]) (by simp [World.freeze]) (by simp [World.freeze]) (by rw [hsz]; exact Nat.le_refl _) (fun k hk => hother k (by omega)), fun i x hx => ⟨(H.dom i x hx).1, by rw [hsz]; exact (H.dom i x hx).2⟩, ?_, H.fam, H.sep⟩
  intro i o ho
  obtain ⟨b2, σ, κ, hp, hR⟩ := H.obj i o ho
  refine ⟨b2, σ, κ, hp, ?_⟩
  by_cases hbb : b2 = b
  · subst hbb
    cases o with
    | var cs n ro =>
      obtain ⟨e1, e2, e3, e4, e5⟩ := hR
      refine ⟨e1, e2, fun off v a1 a2 => by rw [hcell]; exact e3 off v a1 a2, fun hro => ?_, e5⟩
      obtain ⟨q1, q2⟩ := e4 hro
      refine ⟨q1, fun off hoff => ?_⟩
      obtain ⟨⟨u, hu⟩, hf⟩ := q2 off hoff
      exact ⟨⟨u, by rw [hcell]; exact hu⟩, hfr off (hin off u hu)⟩
    | row f g lo hi sz cs =>
      intro fm hf hg
      obtain ⟨q1, q2, q3, q4, q5, q6⟩ := hR fm hf hg
      refine ⟨q1, q2, q3, fun c v a1 a2 a3 => by rw [hcell]; exact q4 c v a1 a2 a3, fun c a1 a2 => by rw [hcell]; exact q5 c a1 a2, fun c a0 a1 a2 => ?_⟩
      obtain ⟨u, hu⟩ := q5 c a1 a2
      exact hfr _ (hin _ u hu)
    | map es =>
      obtain ⟨e1, e2, e3, ents, clock, hm, _⟩ := hR
      rw [hb] at hm; cases hm
  · exact hR.same (hother b2 hbb)

theorem convA_ok (H : HRel B0 w0 φ h w) {src dst : TypeId} {x x' v : Value} (hx : VRel φ x x') (hr : convA P h src dst x = some (v, h')) : Out B0 w0 φ (convert src dst x') P w v h' := by
  unfold convA at hr
  split at hr
  · rename_i s d hs hd
    obtain ⟨is, his, hus, -⟩ := tiOf_ok hs
    obtain ⟨id, hid, hud, -⟩ := tiOf_ok hd
    split at hr
    · rename_i e b hdu
      cases hx.string_inv
      rw [hdu] at hud
      split at hr
      · rename_i te hte
        obtain ⟨ie, hie, hue, -⟩ := tiOf_ok hte
        split at hr
        · rename_i heu
          rw [heu] at hue
          split at hr
          · rename_i i h2 hn
            simp only [Option.some.injEq, Prod.mk.injEq] at hr
            obtain ⟨rfl, rfl⟩ := hr
            let cap := (Question.appendCap b.size 0 e).cut (w.tape w.drawn (.appendCap b.size 0 e))
            have hcap : b.size ≤ cap := appendCap_ge
            obtain ⟨ψ, h1, h2', h3⟩ := H.drew.newRow hn (ofBytes_rel b.data.toList) (rest := List.replicate (cap - b.size) (.int .u8 0)) e (cap - b.size) (by simp)
            have hblk : (w.drew.alloc (.cells ⟨ofBytes b.data.toList ++ List.replicate (cap - b.size) (.int .u8 0)⟩ e)).heap[w.drew.heap.size]? = some (.cells ⟨ofBytes b.data.toList ++ List.replicate (cap - b.size) (.int .u8 0)⟩ e (0, 0)) := Go.heap_alloc_new w.drew _
            have h4 := h3.mark hblk (Nat.le_trans H.base H.below.size)
            refine ⟨ψ, .slice (some ⟨w.heap.size, 0, none⟩) b.size cap, _, ?_, h1, ?_, h4⟩
            · have hcells : (b.data.map (fun b => Value.int .u8 (b.toNat : Int)) ++ Array.replicate (cap - b.size) (Value.int .u8 0)) = (⟨ofBytes b.data.toList ++ List.replicate (cap - b.size) (.int .u8 0)⟩ : Array Value) := by
                apply Array.ext'
                simp [ofBytes]
              simp only [convert, Sem.run_bind, run_underlying hus, run_underlying hud, Result.andThen_ok, run_underlying hue, Conv.stringToBytes, run_choose, Question.forced, Bool.false_eq_true, if_false, newRow, run_newObj, Sem.run_pure]
              rw [show (Question.appendCap b.size 0 e).cut (w.tape w.drawn (.appendCap b.size 0 e)) = cap from rfl, hcells]
              rw [run_markStringish _ w.heap.size 0]
              have hsh : (w.drew.alloc (.cells ⟨ofBytes b.data.toList ++ List.replicate (cap - b.size) (.int .u8 0)⟩ e)).shape? w.heap.size = some (e, (⟨ofBytes b.data.toList ++ List.replicate (cap - b.size) (Value.int .u8 0)⟩ : Array Value).size) := by
                have : w.heap.size = w.drew.heap.size := rfl
                rw [this]
                simp only [World.shape?, hblk]
              show (Result.ok () (match (w.drew.alloc (.cells ⟨ofBytes b.data.toList ++ List.replicate (cap - b.size) (.int .u8 0)⟩ e)).shape? w.heap.size with
                | some (_, n) => (w.drew.alloc (.cells ⟨ofBytes b.data.toList ++ List.replicate (cap - b.size) (.int .u8 0)⟩ e)).freeze ⟨w.heap.size, n, none⟩ 1
                | none => w.drew.alloc (.cells ⟨ofBytes b.data.toList ++ List.replicate (cap - b.size) (.int .u8 0)⟩ e))).andThen _ = _
              rw [hsh]
              rfl
            · have := VRel.slice (φ := ψ) (len := b.size) (cap := b.size) h2' (Nat.zero_le 0) (.inl (by rfl))
              rw [show b.size + (cap - b.size) = cap from by omega] at this
              exact this
          · cases hr
        · cases hr
      · cases hr
    · cases hr
  · cases hr

end Go.Abs
