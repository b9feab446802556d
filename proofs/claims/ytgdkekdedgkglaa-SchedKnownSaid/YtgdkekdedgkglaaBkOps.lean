/- Each quiet operation of the deterministic semantics, held against the model's. -/
import Derived.Test.YtgdkekdedgkglaaBkMem
open Go.RowKit
namespace Go.Abs

variable {B0 : Nat} {w0 : World} {φ : Map} {h h' : AW} {w : World} {P : Program}

theorem tiOf_ok {t : TypeId} {ti : TI} (ht : tiOf P t = some ti) : ∃ i, P.info? t = some i ∧ P.underlying t = some ti.und ∧ ti.agg = aggOf ti.und ∧ ti.size = i.size ∧ ti.bytes = i.bytes ∧
    (∀ z, ti.zero = some z → i.zero = some z ∧ flat z = true ∧ z.cells.size = ti.size) := by
  unfold tiOf at ht
  split at ht
  · rename_i i u hi hu
    simp only [Option.some.injEq] at ht; subst ht
    refine ⟨i, hi, hu, rfl, rfl, rfl, fun z hz => ?_⟩
    simp only at hz
    split at hz
    · rename_i z' hz'
      split at hz
      · rename_i hb
        simp only [Option.some.injEq] at hz; subst hz
        simp only [Bool.and_eq_true] at hb
        exact ⟨hz', hb.1, Nat.eq_of_beq_eq_true hb.2⟩
      · cases hz
    · cases hz
  · cases ht

theorem run_isAgg' {t : TypeId} {d : TypeDesc} (hu : P.underlying t = some d) (w : World) : (isAgg t).run P w = .ok (aggOf d) w := by
  cases d <;> simp [isAgg, run_underlying hu, aggOf]
theorem run_sizeOf' {t : TypeId} {i : TypeInfo} (hi : P.info? t = some i) (w : World) : (sizeOf t).run P w = .ok i.size w := by simp [sizeOf, typeInfo, hi]
theorem run_typeInfo' {t : TypeId} {i : TypeInfo} (hi : P.info? t = some i) (w : World) : (typeInfo t).run P w = .ok i w := by simp [typeInfo, hi]
theorem run_zeroValue' {t : TypeId} {i : TypeInfo} {z : Value} (hi : P.info? t = some i) (hz : i.zero = some z) (w : World) : (zeroValue t).run P w = .ok z w := by simp [zeroValue, typeInfo, hi, hz]
theorem run_load' {a : Addr} {v : Value} (hc : w.cell? a = some v) : (load a).run P w = .ok v w := by
  rw [run_load]; simp [hc]

theorem VRel.ptr_inv {i off : Nat} {s : Option Nat} {v' : Value} (hv : VRel φ (.pointer (some ⟨i, off, s⟩)) v') : s = none ∧ ∃ b σ κ, φ i = some (b, σ, κ) ∧ σ ≤ off ∧ v' = .pointer (some ⟨b, off - σ, none⟩) := by
  cases hv with
  | ptr hp hs => exact ⟨rfl, _, _, _, hp, hs, rfl⟩
theorem VRel.slice_inv {i off len cap : Nat} {s : Option Nat} {v' : Value} (hv : VRel φ (.slice (some ⟨i, off, s⟩) len cap) v') :
    s = none ∧ ∃ b σ κ off', φ i = some (b, σ, κ) ∧ σ ≤ off ∧ (off' = off - σ ∨ (len = 0 ∧ cap + κ = 0)) ∧ v' = .slice (some ⟨b, off', none⟩) len (cap + κ) := by
  cases hv with
  | slice hp hs ho => exact ⟨rfl, _, _, _, _, hp, hs, ho, rfl⟩
theorem VRel.sliceN_inv {len cap : Nat} {v' : Value} (hv : VRel φ (.slice none len cap) v') : v' = .slice none len cap := by cases hv; rfl
theorem VRel.map_inv {i : Nat} {v' : Value} (hv : VRel φ (.map (some i)) v') : ∃ b σ κ, φ i = some (b, σ, κ) ∧ v' = .map (some b) := by
  cases hv with | map hp => exact ⟨_, _, _, hp, rfl⟩
theorem VRel.mapN_inv {v' : Value} (hv : VRel φ (.map none) v') : v' = .map none := by cases hv; rfl
theorem VRel.int_inv {k : IntKind} {n : Int} {v' : Value} (hv : VRel φ (.int k n) v') : v' = .int k n := by cases hv; rfl
theorem VRel.bool_inv {b : Bool} {v' : Value} (hv : VRel φ (.bool b) v') : v' = .bool b := by cases hv; rfl
theorem VRel.string_inv {s : ByteArray} {v' : Value} (hv : VRel φ (.string s) v') : v' = .string s := by cases hv; rfl
theorem VRel.agg_inv {cs : Array Value} {v' : Value} (hv : VRel φ (.agg cs) v') : ∃ cs' : Array Value, v' = .agg cs' ∧ LRel φ cs.toList cs'.toList := by
  cases hv with | agg hl h => exact ⟨_, rfl, hl, h⟩
theorem VRel.tuple_inv {cs : Array Value} {v' : Value} (hv : VRel φ (.tuple cs) v') : ∃ cs' : Array Value, v' = .tuple cs' ∧ LRel φ cs.toList cs'.toList := by
  cases hv with | tuple hl h => exact ⟨_, rfl, hl, h⟩
theorem VRel.func_inv {fn : Fn} {f c : Array Value} {v' : Value} (hv : VRel φ (.func fn f c) v') : ∃ f' c' : Array Value, v' = .func fn f' c' ∧ LRel φ f.toList f'.toList ∧ LRel φ c.toList c'.toList := by
  cases hv with | func fn hf hfs hc hcs => exact ⟨_, _, rfl, ⟨hf, hfs⟩, ⟨hc, hcs⟩⟩
theorem VRel.iface_inv {t : TypeId} {v v' : Value} (hv : VRel φ (.iface t v) v') : ∃ u, v' = .iface t u ∧ VRel φ v u := by
  cases hv with | iface t h => exact ⟨_, rfl, h⟩

theorem loadCells_ok {i b σ κ off n : Nat} {l : List Value} (H : HRel B0 w0 φ h w) (hp : φ i = some (b, σ, κ)) (hr : h.rdN i off n = some l) :
    ∃ l', LRel φ l l' ∧ l'.length = n ∧ (loadCells ⟨b, off - σ, none⟩ n).run P w = .ok ⟨l'⟩ w := by
  obtain ⟨hl, _, l', hlr, hc⟩ := H.rdN hp hr
  refine ⟨l', hlr, by rw [← hlr.1, hl], ?_⟩
  have := run_loadCells_list (P := P) w ⟨b, off - σ, none⟩ l' (fun j v hv => by rw [Addr.add_lit]; exact hc j v hv)
  rw [← hlr.1, hl] at this
  exact this

theorem loadV_ok (H : HRel B0 w0 φ h w) {t : TypeId} {x x' v : Value} (hx : VRel φ x x') (hl : loadV P h t x = some v) :
    ∃ v', (Instr.loadAt t x').run P w = .ok v' w ∧ VRel φ v v' := by
  unfold loadV at hl
  split at hl
  · rename_i i off
    obtain ⟨_, b, σ, κ, hp, hs, rfl⟩ := hx.ptr_inv
    split at hl
    · rename_i ti ht
      obtain ⟨info, hi, hu, hagg, hsz, _⟩ := tiOf_ok ht
      split at hl
      · rename_i ha
        split at hl
        · rename_i l hr
          simp only [Option.some.injEq] at hl; subst hl
          obtain ⟨l', hlr, hlen, hrun⟩ := loadCells_ok (P := P) H hp hr
          refine ⟨.agg ⟨l'⟩, ?_, VRel.agg' hlr⟩
          simp only [Instr.loadAt, Instr.sureAddr, loadVar, Sem.run_bind, Sem.run_pure, Result.andThen_ok, run_isAgg' hu, ← hagg, ha, if_true, run_sizeOf' hi, ← hsz, hrun]
        · cases hl
      · rename_i ha
        obtain ⟨_, v', hc, hv⟩ := H.rd hl hp
        refine ⟨v', ?_, hv⟩
        simp only [Instr.loadAt, Instr.sureAddr, loadVar, Sem.run_bind, Sem.run_pure, Result.andThen_ok, run_isAgg' hu, ← hagg, ha, Bool.false_eq_true, if_false, run_load' hc]
    · cases hl
  · cases hl

theorem VRel.cells_size {v v' : Value} (hv : VRel φ v v') : v'.cells.size = v.cells.size := by
  have := hv.cells.1
  simpa using this.symm

theorem storeV_ok (H : HRel B0 w0 φ h w) {t : TypeId} {a a' v v' : Value} (ha : VRel φ a a') (hv : VRel φ v v') (hs : storeV P h t a v = some h') :
    ∃ w', (Instr.storeAt t a' v').run P w = .ok () w' ∧ HRel B0 w0 φ h' w' := by
  unfold storeV at hs
  split at hs
  · rename_i i off
    obtain ⟨_, b, σ, κ, hp, hσ, rfl⟩ := ha.ptr_inv
    split at hs
    · rename_i ti ht
      obtain ⟨info, hi, hu, hagg, hsz, _⟩ := tiOf_ok ht
      have key : ∀ l l' : List Value, LRel φ l l' → l' = v'.cells.toList → l.length = ti.size → h.wrL i off l = some h' → ∃ w', (Instr.storeAt t (.pointer (some ⟨b, off - σ, none⟩)) v').run P w = .ok () w' ∧ HRel B0 w0 φ h' w' := by
        intro l l' hll hl' hlen hw
        obtain ⟨w', hr, H'⟩ := HRel.wrL (P := P) (h := h) (fun _ => rfl) hp (k := 0) H hw hll (off - σ) (fun _ => ⟨by omega, hσ⟩)
        refine ⟨w', ?_, H'⟩
        have hsize : v'.cells.size = info.size := by
          have : v'.cells.size = l'.length := by rw [hl']; simp
          rw [this, ← hll.1, hlen, hsz]
        simp only [Instr.storeAt, Instr.sureAddr, storeVar, Sem.run_bind, Sem.run_pure, Result.andThen_ok, run_sizeOf' hi, hsize, ne_eq, not_true, if_false]
        rw [← hl']
        exact hr
      split at hs
      · rename_i cs
        split at hs
        · rename_i hb
          obtain ⟨cs', rfl, hcs⟩ := hv.agg_inv
          exact key _ _ hcs rfl (by simpa using beq_true hb) hs
        · cases hs
      · rename_i hna
        split at hs
        · rename_i hb
          have h1 : h.wrL i off [v] = some h' := by simp [AW.wrL, hs]
          refine key [v] [v'] (L2.cons hv L2.nil) ?_ (by simp [beq_true hb]) h1
          cases hv <;> first | rfl | (exfalso; exact hna _ rfl)
        · cases hs
    · cases hs
  · cases hs

theorem partV_ok {t : TypeId} {cs cs' : Array Value} {off : Nat} {v : Value} (hcs : LRel φ cs.toList cs'.toList) (hp : partV P t cs off = some v) :
    ∃ v', (part t cs' off).run P w = .ok v' w ∧ VRel φ v v' := by
  unfold partV at hp
  split at hp
  · rename_i ti ht
    obtain ⟨info, hi, hu, hagg, hsz, _⟩ := tiOf_ok ht
    split at hp
    · rename_i ha
      simp only [Option.some.injEq] at hp; subst hp
      refine ⟨.agg (cs'.extract off (off + ti.size)), ?_, ?_⟩
      · simp only [part, Sem.run_bind, run_isAgg' hu, Result.andThen_ok, ← hagg, ha, if_true, run_sizeOf' hi, ← hsz, Sem.run_pure]
      · have : LRel φ (cs.extract off (off + ti.size)).toList (cs'.extract off (off + ti.size)).toList := by
          simp only [Array.toList_extract, List.extract_eq_take_drop]
          exact (hcs.drop _).take _
        exact VRel.agg' this
    · rename_i ha
      obtain ⟨v', hv', hr⟩ := hcs.get (i := off) (v := v) (by simpa using hp)
      refine ⟨v', ?_, hr⟩
      have hv2 : cs'[off]? = some v' := by simpa using hv'
      simp only [part, Sem.run_bind, run_isAgg' hu, Result.andThen_ok, ← hagg, ha, Bool.false_eq_true, if_false, hv2, Sem.run_pure]
  · cases hp

theorem idx_ok {x x' : Value} {n i : Nat} (hx : VRel φ x x') (hi : idx x n = some i) : ∃ k, x' = .int k (i : Int) ∧ i < n := by
  unfold idx at hi
  split at hi
  · rename_i k j
    split at hi
    · rename_i hb
      simp only [Option.some.injEq] at hi; subst hi
      exact ⟨k, hx.int_inv, ble_true hb⟩
    · cases hi
  · cases hi

theorem indexAddrV_ok {t : TypeId} {x x' i i' v : Value} (hx : VRel φ x x') (hi : VRel φ i i') (hr : indexAddrV P t x i = some v) :
    ∃ v', (Instr.indexAt t x' i').run P w = .ok v' w ∧ VRel φ v v' := by
  unfold indexAddrV at hr
  split at hr
  · rename_i ti ht
    obtain ⟨info, hinf, hu, hagg, hsz, _⟩ := tiOf_ok ht
    split at hr
    · rename_i len elem b off hund
      split at hr
      · rename_i j te hj hte
        simp only [Option.some.injEq] at hr; subst hr
        obtain ⟨info2, hi2, _, _, hsz2, _⟩ := tiOf_ok hte
        obtain ⟨k, rfl, hlt⟩ := idx_ok hi hj
        obtain ⟨_, b', σ, κ, hp, hs, rfl⟩ := hx.ptr_inv
        rw [hund] at hu
        refine ⟨_, ?_, by rw [show ptr b (off + j * te.size) = .pointer (some ⟨b, off + j * te.size, none⟩) from rfl]; exact VRel.ptr hp (by omega)⟩
        have hlt' : (0 : Int) ≤ (j : Int) ∧ (j : Int) < (len : Int) := ⟨by omega, by omega⟩
        simp only [Instr.indexAt, asIntOf, Instr.sureAddr, Sem.run_bind, Sem.run_pure, Result.andThen_ok, run_underlying hu, hlt', and_self, if_true, run_sizeOf' hi2, Int.toNat_natCast, Addr.add_lit]
        rw [show off - σ + j * info2.size = off + j * te.size - σ from by rw [hsz2]; omega]
      · cases hr
    · rename_i elem b off len cap hund
      split at hr
      · rename_i j te hj hte
        simp only [Option.some.injEq] at hr; subst hr
        obtain ⟨info2, hi2, _, _, hsz2, _⟩ := tiOf_ok hte
        obtain ⟨k, rfl, hlt⟩ := idx_ok hi hj
        obtain ⟨_, b', σ, κ, off', hp, hs, ho, rfl⟩ := hx.slice_inv
        rw [hund] at hu
        refine ⟨_, ?_, by rw [show ptr b (off + j * te.size) = .pointer (some ⟨b, off + j * te.size, none⟩) from rfl]; exact VRel.ptr hp (by omega)⟩
        have hlt' : (0 : Int) ≤ (j : Int) ∧ (j : Int) < (len : Int) := ⟨by omega, by omega⟩
        have ho' : off' = off - σ := ho.elim id (fun h => by omega)
        subst ho'
        simp only [Instr.indexAt, asIntOf, Sem.run_bind, Sem.run_pure, Result.andThen_ok, run_underlying hu, hlt', and_self, if_true, run_sizeOf' hi2, Int.toNat_natCast, Addr.add_lit]
        rw [show off - σ + j * info2.size = off + j * te.size - σ from by rw [hsz2]; omega]
      · cases hr
    · cases hr
  · cases hr

theorem indexV_ok {t : TypeId} {x x' i i' v : Value} (hx : VRel φ x x') (hi : VRel φ i i') (hr : indexV P t x i = some v) :
    ∃ v', (Instr.index t x' i').run P w = .ok v' w ∧ VRel φ v v' := by
  unfold indexV at hr
  split at hr
  · rename_i ti ht
    obtain ⟨info, hinf, hu, hagg, hsz, _⟩ := tiOf_ok ht
    split at hr
    · rename_i len elem cs hund
      split at hr
      · rename_i j te hj hte
        obtain ⟨info2, hi2, _, _, hsz2, _⟩ := tiOf_ok hte
        obtain ⟨k, rfl, hlt⟩ := idx_ok hi hj
        obtain ⟨cs', rfl, hcs⟩ := hx.agg_inv
        obtain ⟨v', hrun, hv⟩ := partV_ok (P := P) (w := w) hcs hr
        rw [hund] at hu
        refine ⟨v', ?_, hv⟩
        have hlt' : (0 : Int) ≤ (j : Int) ∧ (j : Int) < (len : Int) := ⟨by omega, by omega⟩
        simp only [Instr.index, asIntOf, Sem.run_bind, Sem.run_pure, Result.andThen_ok, run_underlying hu, hlt', and_self, if_true, run_sizeOf' hi2, Int.toNat_natCast, ← hsz2, hrun]
      · cases hr
    · rename_i s hund
      split at hr
      · rename_i j hj
        obtain ⟨k, rfl, hlt⟩ := idx_ok hi hj
        obtain rfl := hx.string_inv
        rw [hund] at hu
        split at hr
        · rename_i b hb
          simp only [Option.some.injEq] at hr; subst hr
          refine ⟨.int .u8 b.toNat, ?_, .int _ _⟩
          have hge : (0 : Int) ≤ (j : Int) := by omega
          have hb2 : s[j]? = some b := hb
          simp only [Instr.index, asIntOf, Sem.run_bind, Sem.run_pure, Result.andThen_ok, run_underlying hu, hge, if_true, Int.toNat_natCast, hb2]
        · cases hr
      · cases hr
    · cases hr
  · cases hr

theorem fieldAddrV_ok {t : TypeId} {x x' v : Value} {f : Nat} (hx : VRel φ x x') (hr : fieldAddrV P t x f = some v) :
    ∃ v', (Instr.fieldAt t x' f).run P w = .ok v' w ∧ VRel φ v v' := by
  unfold fieldAddrV at hr
  split at hr
  · rename_i ti b off ht
    obtain ⟨info, hinf, hu, hagg, hsz, _⟩ := tiOf_ok ht
    split at hr
    · rename_i fs hund
      split at hr
      · rename_i fd hfd
        split at hr
        · rename_i tf htf
          obtain ⟨info2, hi2, _, _, hsz2, _⟩ := tiOf_ok htf
          split at hr
          · cases hr
          · rename_i hz
            simp only [Option.some.injEq] at hr; subst hr
            obtain ⟨_, b', σ, κ, hp, hs, rfl⟩ := hx.ptr_inv
            rw [hund] at hu
            refine ⟨_, ?_, by rw [show ptr b (off + fd.offset) = .pointer (some ⟨b, off + fd.offset, none⟩) from rfl]; exact VRel.ptr hp (by omega)⟩
            have hne : info2.size ≠ 0 := by
              intro e
              rw [hsz2, e] at hz
              cases hz
            simp only [Instr.fieldAt, Instr.sureAddr, fieldPlace, Sem.run_bind, Sem.run_pure, Result.andThen_ok, run_underlying hu, hfd, run_sizeOf' hi2, hne, if_false, Addr.add_lit]
            rw [show off - σ + fd.offset = off + fd.offset - σ from by omega]
        · cases hr
      · cases hr
    · cases hr
  · cases hr

theorem fieldV_ok {t : TypeId} {x x' v : Value} {f : Nat} (hx : VRel φ x x') (hr : fieldV P t x f = some v) :
    ∃ v', (Instr.field t x' f).run P w = .ok v' w ∧ VRel φ v v' := by
  unfold fieldV at hr
  split at hr
  · rename_i ti cs ht
    obtain ⟨info, hinf, hu, hagg, hsz, _⟩ := tiOf_ok ht
    split at hr
    · rename_i fs hund
      split at hr
      · rename_i fd hfd
        obtain ⟨cs', rfl, hcs⟩ := hx.agg_inv
        obtain ⟨v', hrun, hv⟩ := partV_ok (P := P) (w := w) hcs hr
        rw [hund] at hu
        refine ⟨v', ?_, hv⟩
        simp only [Instr.field, asAgg, Sem.run_bind, Sem.run_pure, Result.andThen_ok, run_underlying hu, hfd, hrun]
      · cases hr
    · cases hr
  · cases hr

end Go.Abs
