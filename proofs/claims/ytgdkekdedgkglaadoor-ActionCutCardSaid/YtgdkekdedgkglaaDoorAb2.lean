/- A deterministic heap for the model, proved sound, and walks of the program over it: part 2. No condition. -/
import Derived.Test.YtgdkekdedgkglaaDoorAb1
import Derived.Laws.Tables
import Derived.Laws.Strings
import Derived.Laws.StructEq
import Derived.MapKept
import Derived.Laws.BytesString
set_option linter.unusedVariables false
set_option linter.unusedSimpArgs false
set_option linter.unusedSectionVars false
section
/- Each quiet operation of the deterministic semantics, held against the model's. -/
open Go.RowKit
namespace Go.Abs

variable {B0 : Zn} {w0 : World} {φ : Map} {h h' : AW} {w : World} {P : Program}

theorem tiOf_ok {t : TypeId} {ti : TI} (ht : tiOf P t = some ti) : ∃ i, P.info? t = some i ∧ P.underlying t = some ti.und ∧ ti.agg = aggOf ti.und ∧ ti.size = i.size ∧ ti.bytes = i.bytes ∧
    (∀ z, ti.zero = some z → i.zero = some z ∧ flat z = true ∧ z.cells.size = ti.size) := by
  unfold tiOf at ht
  split at ht
  · rename_i i u hi hu
    simp only [Option.some.injEq] at ht; subst ht
    refine ⟨i, hi, hu, rfl, rfl, rfl, fun z hz => ?_⟩
    simp only at hz
    split at hz
    · rename_i z' hz'
      split at hz
      · rename_i hb
        simp only [Option.some.injEq] at hz; subst hz
        simp only [Bool.and_eq_true] at hb
        exact ⟨hz', hb.1, Nat.eq_of_beq_eq_true hb.2⟩
      · cases hz
    · cases hz
  · cases ht

theorem run_isAgg' {t : TypeId} {d : TypeDesc} (hu : P.underlying t = some d) (w : World) : (isAgg t).run P w = .ok (aggOf d) w := by
  cases d <;> simp [isAgg, run_underlying hu, aggOf]
theorem run_sizeOf' {t : TypeId} {i : TypeInfo} (hi : P.info? t = some i) (w : World) : (sizeOf t).run P w = .ok i.size w := by simp [sizeOf, typeInfo, hi]
theorem run_typeInfo' {t : TypeId} {i : TypeInfo} (hi : P.info? t = some i) (w : World) : (typeInfo t).run P w = .ok i w := by simp [typeInfo, hi]
theorem run_zeroValue' {t : TypeId} {i : TypeInfo} {z : Value} (hi : P.info? t = some i) (hz : i.zero = some z) (w : World) : (zeroValue t).run P w = .ok z w := by simp [zeroValue, typeInfo, hi, hz]
theorem run_load' {a : Addr} {v : Value} (hc : w.cell? a = some v) : (load a).run P w = .ok v w := by
  rw [run_load]; simp [hc]

theorem VRel.ptr_inv {i off : Nat} {s : Option Nat} {v' : Value} (hv : VRel φ (.pointer (some ⟨i, off, s⟩)) v') : s = none ∧ ∃ b σ κ, φ i = some (b, σ, κ) ∧ σ ≤ off ∧ v' = .pointer (some ⟨b, off - σ, none⟩) := by
  cases hv with
  | ptr hp hs => exact ⟨rfl, _, _, _, hp, hs, rfl⟩
theorem VRel.slice_inv {i off len cap : Nat} {s : Option Nat} {v' : Value} (hv : VRel φ (.slice (some ⟨i, off, s⟩) len cap) v') :
    s = none ∧ ∃ b σ κ a', φ i = some (b, σ, κ) ∧ σ ≤ off ∧ (a' = ⟨b, off - σ, none⟩ ∨ (len = 0 ∧ cap + κ = 0)) ∧ v' = .slice (some a') len (cap + κ) := by
  cases hv with
  | slice hp hs ho => exact ⟨rfl, _, _, _, _, hp, hs, ho, rfl⟩
theorem VRel.sliceN_inv {len cap : Nat} {v' : Value} (hv : VRel φ (.slice none len cap) v') : v' = .slice none len cap := by cases hv; rfl
theorem VRel.map_inv {i : Nat} {v' : Value} (hv : VRel φ (.map (some i)) v') : ∃ b σ κ, φ i = some (b, σ, κ) ∧ v' = .map (some b) := by
  cases hv with | map hp => exact ⟨_, _, _, hp, rfl⟩
theorem VRel.mapN_inv {v' : Value} (hv : VRel φ (.map none) v') : v' = .map none := by cases hv; rfl
theorem VRel.int_inv {k : IntKind} {n : Int} {v' : Value} (hv : VRel φ (.int k n) v') : v' = .int k n := by cases hv; rfl
theorem VRel.bool_inv {b : Bool} {v' : Value} (hv : VRel φ (.bool b) v') : v' = .bool b := by cases hv; rfl
theorem VRel.string_inv {s : ByteArray} {v' : Value} (hv : VRel φ (.string s) v') : v' = .string s := by cases hv; rfl
theorem VRel.agg_inv {cs : Array Value} {v' : Value} (hv : VRel φ (.agg cs) v') : ∃ cs' : Array Value, v' = .agg cs' ∧ LRel φ cs.toList cs'.toList := by
  cases hv with | agg hl h => exact ⟨_, rfl, hl, h⟩
theorem VRel.tuple_inv {cs : Array Value} {v' : Value} (hv : VRel φ (.tuple cs) v') : ∃ cs' : Array Value, v' = .tuple cs' ∧ LRel φ cs.toList cs'.toList := by
  cases hv with | tuple hl h => exact ⟨_, rfl, hl, h⟩
theorem VRel.func_inv {fn : Fn} {f c : Array Value} {v' : Value} (hv : VRel φ (.func fn f c) v') : ∃ f' c' : Array Value, v' = .func fn f' c' ∧ LRel φ f.toList f'.toList ∧ LRel φ c.toList c'.toList := by
  cases hv with | func fn hf hfs hc hcs => exact ⟨_, _, rfl, ⟨hf, hfs⟩, ⟨hc, hcs⟩⟩
theorem loadCells_ok {i b σ κ off n : Nat} {l : List Value} (H : HRel B0 w0 φ h w) (hp : φ i = some (b, σ, κ)) (hr : h.rdN i off n = some l) :
    ∃ l', LRel φ l l' ∧ l'.length = n ∧ (loadCells ⟨b, off - σ, none⟩ n).run P w = .ok ⟨l'⟩ w := by
  obtain ⟨hl, _, l', hlr, hc⟩ := H.rdN hp hr
  refine ⟨l', hlr, by rw [← hlr.1, hl], ?_⟩
  have := run_loadCells_list (P := P) w ⟨b, off - σ, none⟩ l' (fun j v hv => by rw [Addr.add_lit]; exact hc j v hv)
  rw [← hlr.1, hl] at this
  exact this

theorem loadV_ok (H : HRel B0 w0 φ h w) {t : TypeId} {x x' v : Value} (hx : VRel φ x x') (hl : loadV P h t x = some v) :
    ∃ v', (Instr.loadAt t x').run P w = .ok v' w ∧ VRel φ v v' := by
  unfold loadV at hl
  split at hl
  · rename_i i off
    obtain ⟨_, b, σ, κ, hp, hs, rfl⟩ := hx.ptr_inv
    split at hl
    · rename_i ti ht
      obtain ⟨info, hi, hu, hagg, hsz, _⟩ := tiOf_ok ht
      split at hl
      · rename_i ha
        split at hl
        · rename_i l hr
          simp only [Option.some.injEq] at hl; subst hl
          obtain ⟨l', hlr, hlen, hrun⟩ := loadCells_ok (P := P) H hp hr
          refine ⟨.agg ⟨l'⟩, ?_, VRel.agg' hlr⟩
          simp only [Instr.loadAt, Instr.sureAddr, loadVar, Sem.run_bind, Sem.run_pure, Result.andThen_ok, run_isAgg' hu, ← hagg, ha, if_true, run_sizeOf' hi, ← hsz, hrun]
        · cases hl
      · rename_i ha
        obtain ⟨_, v', hc, hv⟩ := H.rd hl hp
        refine ⟨v', ?_, hv⟩
        simp only [Instr.loadAt, Instr.sureAddr, loadVar, Sem.run_bind, Sem.run_pure, Result.andThen_ok, run_isAgg' hu, ← hagg, ha, Bool.false_eq_true, if_false, run_load' hc]
    · cases hl
  · cases hl

theorem VRel.cells_size {v v' : Value} (hv : VRel φ v v') : v'.cells.size = v.cells.size := by
  have := hv.cells.1
  simpa using this.symm

theorem storeV_ok (H : HRel B0 w0 φ h w) {t : TypeId} {a a' v v' : Value} (ha : VRel φ a a') (hv : VRel φ v v') (hs : storeV P h t a v = some h') :
    ∃ w', (Instr.storeAt t a' v').run P w = .ok () w' ∧ HRel B0 w0 φ h' w' := by
  unfold storeV at hs
  split at hs
  · rename_i i off
    obtain ⟨_, b, σ, κ, hp, hσ, rfl⟩ := ha.ptr_inv
    split at hs
    · rename_i ti ht
      obtain ⟨info, hi, hu, hagg, hsz, _⟩ := tiOf_ok ht
      have key : ∀ l l' : List Value, LRel φ l l' → l' = v'.cells.toList → l.length = ti.size → h.wrL i off l = some h' → ∃ w', (Instr.storeAt t (.pointer (some ⟨b, off - σ, none⟩)) v').run P w = .ok () w' ∧ HRel B0 w0 φ h' w' := by
        intro l l' hll hl' hlen hw
        obtain ⟨w', hr, H'⟩ := HRel.wrL (P := P) (h := h) (fun _ => rfl) hp (k := 0) H hw hll (off - σ) (fun _ => ⟨by omega, hσ⟩)
        refine ⟨w', ?_, H'⟩
        have hsize : v'.cells.size = info.size := by
          have : v'.cells.size = l'.length := by rw [hl']; simp
          rw [this, ← hll.1, hlen, hsz]
        simp only [Instr.storeAt, Instr.sureAddr, storeVar, Sem.run_bind, Sem.run_pure, Result.andThen_ok, run_sizeOf' hi, hsize, ne_eq, not_true, if_false]
        rw [← hl']
        exact hr
      split at hs
      · rename_i cs
        split at hs
        · rename_i hb
          obtain ⟨cs', rfl, hcs⟩ := hv.agg_inv
          exact key _ _ hcs rfl (by simpa using beq_true hb) hs
        · cases hs
      · rename_i hna
        split at hs
        · rename_i hb
          have h1 : h.wrL i off [v] = some h' := by simp [AW.wrL, hs]
          refine key [v] [v'] (L2.cons hv L2.nil) ?_ (by simp [beq_true hb]) h1
          cases hv <;> first | rfl | (exfalso; exact hna _ rfl)
        · cases hs
    · cases hs
  · cases hs

theorem partV_ok {t : TypeId} {cs cs' : Array Value} {off : Nat} {v : Value} (hcs : LRel φ cs.toList cs'.toList) (hp : partV P t cs off = some v) :
    ∃ v', (part t cs' off).run P w = .ok v' w ∧ VRel φ v v' := by
  unfold partV at hp
  split at hp
  · rename_i ti ht
    obtain ⟨info, hi, hu, hagg, hsz, _⟩ := tiOf_ok ht
    split at hp
    · rename_i ha
      simp only [Option.some.injEq] at hp; subst hp
      refine ⟨.agg (cs'.extract off (off + ti.size)), ?_, ?_⟩
      · simp only [part, Sem.run_bind, run_isAgg' hu, Result.andThen_ok, ← hagg, ha, if_true, run_sizeOf' hi, ← hsz, Sem.run_pure]
      · have : LRel φ (cs.extract off (off + ti.size)).toList (cs'.extract off (off + ti.size)).toList := by
          simp only [Array.toList_extract, List.extract_eq_take_drop]
          exact (hcs.drop _).take _
        exact VRel.agg' this
    · rename_i ha
      obtain ⟨v', hv', hr⟩ := hcs.get (i := off) (v := v) (by simpa using hp)
      refine ⟨v', ?_, hr⟩
      have hv2 : cs'[off]? = some v' := by simpa using hv'
      simp only [part, Sem.run_bind, run_isAgg' hu, Result.andThen_ok, ← hagg, ha, Bool.false_eq_true, if_false, hv2, Sem.run_pure]
  · cases hp

theorem idx_ok {x x' : Value} {n i : Nat} (hx : VRel φ x x') (hi : idx x n = some i) : ∃ k, x' = .int k (i : Int) ∧ i < n := by
  unfold idx at hi
  split at hi
  · rename_i k j
    split at hi
    · rename_i hb
      simp only [Option.some.injEq] at hi; subst hi
      exact ⟨k, hx.int_inv, ble_true hb⟩
    · cases hi
  · cases hi

theorem indexAddrV_ok {t : TypeId} {x x' i i' v : Value} (hx : VRel φ x x') (hi : VRel φ i i') (hr : indexAddrV P t x i = some v) :
    ∃ v', (Instr.indexAt t x' i').run P w = .ok v' w ∧ VRel φ v v' := by
  unfold indexAddrV at hr
  split at hr
  · rename_i ti ht
    obtain ⟨info, hinf, hu, hagg, hsz, _⟩ := tiOf_ok ht
    split at hr
    · rename_i len elem b off hund
      split at hr
      · rename_i j te hj hte
        simp only [Option.some.injEq] at hr; subst hr
        obtain ⟨info2, hi2, _, _, hsz2, _⟩ := tiOf_ok hte
        obtain ⟨k, rfl, hlt⟩ := idx_ok hi hj
        obtain ⟨_, b', σ, κ, hp, hs, rfl⟩ := hx.ptr_inv
        rw [hund] at hu
        refine ⟨_, ?_, by rw [show ptr b (off + j * te.size) = .pointer (some ⟨b, off + j * te.size, none⟩) from rfl]; exact VRel.ptr hp (by omega)⟩
        have hlt' : (0 : Int) ≤ (j : Int) ∧ (j : Int) < (len : Int) := ⟨by omega, by omega⟩
        simp only [Instr.indexAt, asIntOf, Instr.sureAddr, Sem.run_bind, Sem.run_pure, Result.andThen_ok, run_underlying hu, hlt', and_self, if_true, run_sizeOf' hi2, Int.toNat_natCast, Addr.add_lit]
        rw [show off - σ + j * info2.size = off + j * te.size - σ from by rw [hsz2]; omega]
      · cases hr
    · rename_i elem b off len cap hund
      split at hr
      · rename_i j te hj hte
        simp only [Option.some.injEq] at hr; subst hr
        obtain ⟨info2, hi2, _, _, hsz2, _⟩ := tiOf_ok hte
        obtain ⟨k, rfl, hlt⟩ := idx_ok hi hj
        obtain ⟨_, b', σ, κ, a', hp, hs, ho, rfl⟩ := hx.slice_inv
        rw [hund] at hu
        refine ⟨_, ?_, by rw [show ptr b (off + j * te.size) = .pointer (some ⟨b, off + j * te.size, none⟩) from rfl]; exact VRel.ptr hp (by omega)⟩
        have hlt' : (0 : Int) ≤ (j : Int) ∧ (j : Int) < (len : Int) := ⟨by omega, by omega⟩
        have ho' : a' = ⟨b', off - σ, none⟩ := ho.elim id (fun h => by omega)
        subst ho'
        simp only [Instr.indexAt, asIntOf, Sem.run_bind, Sem.run_pure, Result.andThen_ok, run_underlying hu, hlt', and_self, if_true, run_sizeOf' hi2, Int.toNat_natCast, Addr.add_lit]
        rw [show off - σ + j * info2.size = off + j * te.size - σ from by rw [hsz2]; omega]
      · cases hr
    · cases hr
  · cases hr

theorem indexV_ok {t : TypeId} {x x' i i' v : Value} (hx : VRel φ x x') (hi : VRel φ i i') (hr : indexV P t x i = some v) :
    ∃ v', (Instr.index t x' i').run P w = .ok v' w ∧ VRel φ v v' := by
  unfold indexV at hr
  split at hr
  · rename_i ti ht
    obtain ⟨info, hinf, hu, hagg, hsz, _⟩ := tiOf_ok ht
    split at hr
    · rename_i len elem cs hund
      split at hr
      · rename_i j te hj hte
        obtain ⟨info2, hi2, _, _, hsz2, _⟩ := tiOf_ok hte
        obtain ⟨k, rfl, hlt⟩ := idx_ok hi hj
        obtain ⟨cs', rfl, hcs⟩ := hx.agg_inv
        obtain ⟨v', hrun, hv⟩ := partV_ok (P := P) (w := w) hcs hr
        rw [hund] at hu
        refine ⟨v', ?_, hv⟩
        have hlt' : (0 : Int) ≤ (j : Int) ∧ (j : Int) < (len : Int) := ⟨by omega, by omega⟩
        simp only [Instr.index, asIntOf, Sem.run_bind, Sem.run_pure, Result.andThen_ok, run_underlying hu, hlt', and_self, if_true, run_sizeOf' hi2, Int.toNat_natCast, ← hsz2, hrun]
      · cases hr
    · rename_i s hund
      split at hr
      · rename_i j hj
        obtain ⟨k, rfl, hlt⟩ := idx_ok hi hj
        obtain rfl := hx.string_inv
        rw [hund] at hu
        split at hr
        · rename_i b hb
          simp only [Option.some.injEq] at hr; subst hr
          refine ⟨.int .u8 b.toNat, ?_, .int _ _⟩
          have hge : (0 : Int) ≤ (j : Int) := by omega
          have hb2 : s[j]? = some b := hb
          simp only [Instr.index, asIntOf, Sem.run_bind, Sem.run_pure, Result.andThen_ok, run_underlying hu, hge, if_true, Int.toNat_natCast, hb2]
        · cases hr
      · cases hr
    · cases hr
  · cases hr

theorem fieldAddrV_ok {t : TypeId} {x x' v : Value} {f : Nat} (hx : VRel φ x x') (hr : fieldAddrV P t x f = some v) :
    ∃ v', (Instr.fieldAt t x' f).run P w = .ok v' w ∧ VRel φ v v' := by
  unfold fieldAddrV at hr
  split at hr
  · rename_i ti b off ht
    obtain ⟨info, hinf, hu, hagg, hsz, _⟩ := tiOf_ok ht
    split at hr
    · rename_i fs hund
      split at hr
      · rename_i fd hfd
        split at hr
        · rename_i tf htf
          obtain ⟨info2, hi2, _, _, hsz2, _⟩ := tiOf_ok htf
          split at hr
          · cases hr
          · rename_i hz
            simp only [Option.some.injEq] at hr; subst hr
            obtain ⟨_, b', σ, κ, hp, hs, rfl⟩ := hx.ptr_inv
            rw [hund] at hu
            refine ⟨_, ?_, by rw [show ptr b (off + fd.offset) = .pointer (some ⟨b, off + fd.offset, none⟩) from rfl]; exact VRel.ptr hp (by omega)⟩
            have hne : info2.size ≠ 0 := by
              intro e
              rw [hsz2, e] at hz
              cases hz
            simp only [Instr.fieldAt, Instr.sureAddr, fieldPlace, Sem.run_bind, Sem.run_pure, Result.andThen_ok, run_underlying hu, hfd, run_sizeOf' hi2, hne, if_false, Addr.add_lit]
            rw [show off - σ + fd.offset = off + fd.offset - σ from by omega]
        · cases hr
      · cases hr
    · cases hr
  · cases hr

theorem fieldV_ok {t : TypeId} {x x' v : Value} {f : Nat} (hx : VRel φ x x') (hr : fieldV P t x f = some v) :
    ∃ v', (Instr.field t x' f).run P w = .ok v' w ∧ VRel φ v v' := by
  unfold fieldV at hr
  split at hr
  · rename_i ti cs ht
    obtain ⟨info, hinf, hu, hagg, hsz, _⟩ := tiOf_ok ht
    split at hr
    · rename_i fs hund
      split at hr
      · rename_i fd hfd
        obtain ⟨cs', rfl, hcs⟩ := hx.agg_inv
        obtain ⟨v', hrun, hv⟩ := partV_ok (P := P) (w := w) hcs hr
        rw [hund] at hu
        refine ⟨v', ?_, hv⟩
        simp only [Instr.field, asAgg, Sem.run_bind, Sem.run_pure, Result.andThen_ok, run_underlying hu, hfd, hrun]
      · cases hr
    · cases hr
  · cases hr

end Go.Abs
end

section
/- The other quiet operations: arithmetic, comparisons, conversions, building, slicing, looking up, lengths. -/
open Go.RowKit
namespace Go.Abs
variable {B0 : Zn} {w0 : World} {φ : Map} {h h' : AW} {w : World} {P : Program}

theorem intBin_ok {op : BinOp} {k : IntKind} {x y : Int} {v : Value} {t : TypeId} (hsh : op ≠ .shl ∧ op ≠ .shr) (hr : intBin op k x y = some v) : (binOp op t (.int k x) (.int k y)).run P w = .ok v w := by
  cases op <;> simp only [intBin] at hr
  case quo => split at hr <;> simp_all [binOp, Op.intDiv]
  case rem => split at hr <;> simp_all [binOp, Op.intDiv]
  case shl => exact absurd rfl hsh.1
  case shr => exact absurd rfl hsh.2
  all_goals simp only [Option.some.injEq] at hr; subst hr; simp [binOp, Op.intArith, Op.intCmp, Op.intBits]

theorem strBin_ok {op : BinOp} {x y : ByteArray} {v : Value} {t : TypeId} (hr : strBin op x y = some v) : (binOp op t (.string x) (.string y)).run P w = .ok v w := by
  cases op <;> simp only [strBin] at hr
  case add =>
    split at hr
    · rename_i hb
      have := ble_true hb
      simp only [Option.some.injEq] at hr; subst hr
      have h63 : ¬ (((x.size + y.size : Nat) : Int) > 9223372036854775807) := by omega
      have hm : IntKind.i64.max = 9223372036854775807 := by decide
      simp only [binOp, Op.stringOp, hm, if_neg h63]
      rfl
    · cases hr
  all_goals (try cases hr)
  all_goals simp [binOp, Op.stringOp, ByteArray.toList_eq]

theorem cellEq_rel {x y x' y' : Value} {b : Bool} (hx : VRel φ x x') (hy : VRel φ y y') (he : cellEq x y = some b) : cellEq x' y' = some b := by
  unfold cellEq at he
  split at he
  · cases hx.bool_inv; cases hy.bool_inv; exact he
  · cases hx.int_inv; cases hy.int_inv; exact he
  · cases hx.string_inv; cases hy.string_inv; exact he
  · cases he

theorem cellEq_run' {t : TypeId} {d : TypeDesc} {x y : Value} {b : Bool} {n : Nat} (hd : P.underlying t = some d) (hs : cellFits d x = true) (hk : cellEq x y = some b) :
    (Op.equalIn (n + 1) t x y).run P w = .ok b w := by
  unfold cellEq at hk
  split at hk
  · cases d <;> simp [cellFits] at hs
    simp only [Option.some.injEq] at hk; subst hk
    simp [Op.equalIn, run_underlying hd]
  · cases d <;> simp [cellFits] at hs
    split at hk
    · simp only [Option.some.injEq] at hk; subst hk
      rename_i hkk
      simp [Op.equalIn, run_underlying hd, hkk]
    · cases hk
  · cases d <;> simp [cellFits] at hs
    simp only [Option.some.injEq] at hk; subst hk
    rename_i a b
    simp [Op.equalIn, run_underlying hd, beq_toListBytes, ByteArray.toList_eq]
  · cases hk

theorem cellFits_rel {d : TypeDesc} {x x' : Value} (hx : VRel φ x x') (h : cellFits d x = true) : cellFits d x' = true := by
  cases d <;> cases x <;> simp [cellFits] at h <;> cases hx <;> rfl

theorem eqFields_run {n : Nat} (xs ys : Array Value) : ∀ (fs : List Field) (k : Nat) (X Y : List Value) (b : Bool), plainFields P k fs = true → fieldsEq P fs X Y = some b →
    X = xs.toList.drop k → Y = ys.toList.drop k → (Op.eqFields (n + 1) xs ys fs).run P w = .ok b w
  | [], k, X, Y, b, _, he, hX, hY => by
    cases X <;> cases Y <;> simp [fieldsEq] at he
    subst he; simp [Op.eqFields]
  | f :: fs, k, X, Y, b, hp, he, hX, hY => by
    cases X with
    | nil => cases Y <;> simp [fieldsEq] at he
    | cons x X =>
      cases Y with
      | nil => simp [fieldsEq] at he
      | cons y Y =>
        simp only [plainFields] at hp
        cases hd : P.underlying f.type with
        | none => simp [hd] at hp
        | some d =>
          simp only [hd, Bool.and_eq_true] at hp
          obtain ⟨⟨⟨hname, hoff⟩, hsc⟩, hrest⟩ := hp
          have hoff := Nat.eq_of_beq_eq_true hoff
          simp only [fieldsEq, hd] at he
          split at he
          · rename_i hfit
            have hx0 : xs[k]? = some x := by
              have : (xs.toList.drop k)[0]? = some x := by rw [← hX]; rfl
              simpa using this
            have hy0 : ys[k]? = some y := by
              have : (ys.toList.drop k)[0]? = some y := by rw [← hY]; rfl
              simpa using this
            have hagg : aggOf d = false := by cases d <;> simp [scalar] at hsc <;> rfl
            have hX' : X = xs.toList.drop (k + 1) := by rw [← List.tail_drop, ← hX]; rfl
            have hY' : Y = ys.toList.drop (k + 1) := by rw [← List.tail_drop, ← hY]; rfl
            have hpx : (part f.type xs f.offset).run P w = .ok x w := by
              simp only [part, Sem.run_bind, run_isAgg' hd, Result.andThen_ok, hagg, Bool.false_eq_true, if_false, hoff, hx0, Sem.run_pure]
            have hpy : (part f.type ys f.offset).run P w = .ok y w := by
              simp only [part, Sem.run_bind, run_isAgg' hd, Result.andThen_ok, hagg, Bool.false_eq_true, if_false, hoff, hy0, Sem.run_pure]
            have hname' : f.name ≠ "_" := by simpa using hname
            simp only [Op.eqFields, ne_eq, hname', not_false_eq_true, if_true, Sem.run_bind, hpx, hpy, Result.andThen_ok]
            cases hc : cellEq x y with
            | none => simp [hc] at he
            | some c =>
              rw [cellEq_run' hd hfit hc]
              rw [hc] at he
              cases c with
              | true =>
                simp only [Result.andThen_ok, Bool.not_true, Bool.false_eq_true, if_false]
                exact eqFields_run xs ys fs (k + 1) X Y b hrest he hX' hY'
              | false =>
                simp only [Option.some.injEq] at he; subst he
                simp
          · cases he

theorem fieldsEq_rel : ∀ {fs : List Field} {xs ys xs' ys' : List Value} {b : Bool}, LRel φ xs xs' → LRel φ ys ys' → fieldsEq P fs xs ys = some b → fieldsEq P fs xs' ys' = some b
  | [], [], [], xs', ys', b, hx, hy, he => by cases hx.nil_left; cases hy.nil_left; exact he
  | f :: fs, x :: xs, y :: ys, xs', ys', b, hx, hy, he => by
    obtain ⟨x', tx, rfl, h1, h2⟩ := hx.cons_left
    obtain ⟨y', ty, rfl, h3, h4⟩ := hy.cons_left
    simp only [fieldsEq] at he ⊢
    cases hd : P.underlying f.type with
    | none => simp [hd] at he
    | some d =>
      simp only [hd] at he ⊢
      split at he
      · rename_i hfit
        rw [cellFits_rel h1 hfit]
        simp only []
        cases hc : cellEq x y with
        | none => simp [hc] at he
        | some c =>
          rw [cellEq_rel h1 h3 hc]
          rw [hc] at he
          cases c with
          | true => exact fieldsEq_rel h2 h4 he
          | false => exact he
      · cases he
  | [], [], _ :: _, _, _, _, _, _, he => by simp [fieldsEq] at he
  | [], _ :: _, _, _, _, _, _, _, he => by simp [fieldsEq] at he
  | _ :: _, [], _, _, _, _, _, _, he => by simp [fieldsEq] at he
  | _ :: _, _ :: _, [], _, _, _, _, _, he => by simp [fieldsEq] at he

theorem eqGuard_triv {op : BinOp} {t : TypeId} {o1 o2 : Operand} {x y : Value} (hn : ¬ (x = .nilIface ∧ y = .nilIface)) (ha : ¬ ∃ a b, x = .agg a ∧ y = .agg b) :
    (eqGuard op t o1 o2 x y).run P w = .ok () w := by
  cases op
  case eql => cases x <;> cases y <;> first | (exact absurd ⟨rfl, rfl⟩ hn) | (exact absurd ⟨_, _, rfl, rfl⟩ ha) | rfl
  case neq => cases x <;> cases y <;> first | (exact absurd ⟨rfl, rfl⟩ hn) | (exact absurd ⟨_, _, rfl, rfl⟩ ha) | rfl
  all_goals rfl

section
variable {t : TypeId} (n : Nat)
theorem eq_bool (hu : P.underlying t = some .bool) (a b : Bool) : (Op.equalIn (n + 1) t (.bool a) (.bool b)).run P w = .ok (a == b) w := by simp [Op.equalIn, run_underlying hu]
theorem eq_ptrL {e : TypeId} (hu : P.underlying t = some (.pointer e)) (q : Option Addr) : (Op.equalIn (n + 1) t (.pointer none) (.pointer q)).run P w = .ok q.isNone w := by simp [Op.equalIn, run_underlying hu]
theorem eq_ptrR {e : TypeId} (hu : P.underlying t = some (.pointer e)) (a : Addr) : (Op.equalIn (n + 1) t (.pointer (some a)) (.pointer none)).run P w = .ok false w := by simp [Op.equalIn, run_underlying hu]
theorem eq_ptrS {e : TypeId} {ie : TypeInfo} (hu : P.underlying t = some (.pointer e)) (hi : P.info? e = some ie) (a : Addr) : (Op.equalIn (n + 1) t (.pointer (some a)) (.pointer (some a))).run P w = .ok true w := by
  simp only [Op.equalIn, Sem.run_bind, run_underlying hu, Result.andThen_ok, run_sizeOf' hi]
  split
  · simp [sameAddr]
  · simp
theorem eq_ifN {ms : Array (String × TypeId)} (hu : P.underlying t = some (.interface ms)) : (Op.equalIn (n + 1) t .nilIface .nilIface).run P w = .ok true w := by simp [Op.equalIn, run_underlying hu]
theorem eq_ifL {ms : Array (String × TypeId)} (hu : P.underlying t = some (.interface ms)) (u : TypeId) (v : Value) : (Op.equalIn (n + 1) t .nilIface (.iface u v)).run P w = .ok false w := by simp [Op.equalIn, run_underlying hu]
theorem eq_ifR {ms : Array (String × TypeId)} (hu : P.underlying t = some (.interface ms)) (u : TypeId) (v : Value) : (Op.equalIn (n + 1) t (.iface u v) .nilIface).run P w = .ok false w := by simp [Op.equalIn, run_underlying hu]
theorem eq_ifD {ms : Array (String × TypeId)} (hu : P.underlying t = some (.interface ms)) {u u' : TypeId} (hne : u ≠ u') (v v' : Value) : (Op.equalIn (n + 1) t (.iface u v) (.iface u' v')).run P w = .ok false w := by
  simp only [Op.equalIn, Sem.run_bind, run_underlying hu, Result.andThen_ok, ne_eq, hne, not_false_eq_true, if_true, Sem.run_pure]
theorem eq_ifS {ms : Array (String × TypeId)} (hu : P.underlying t = some (.interface ms)) {u : TypeId} {i : TypeInfo} {kk k : IntKind} (hi : P.info? u = some i) (hc : i.comparable = true) (hk : P.underlying u = some (.int kk)) (a b : Int) : (Op.equalIn (n + 2) t (.iface u (.int k a)) (.iface u (.int k b))).run P w = .ok (a == b) w := by
  rw [Op.equalIn]
  simp only [Sem.run_bind, run_underlying hu, Result.andThen_ok, ne_eq, not_true, if_false, run_typeInfo' hi, hc, Bool.not_true, Bool.false_eq_true]
  simp [Op.equalIn, run_underlying hk]
theorem eq_slL {e : TypeId} (hu : P.underlying t = some (.slice e)) (q : Option Addr) (a b c d : Nat) : (Op.equalIn (n + 1) t (.slice none a b) (.slice q c d)).run P w = .ok q.isNone w := by simp [Op.equalIn, run_underlying hu]
theorem eq_slR {e : TypeId} (hu : P.underlying t = some (.slice e)) (q : Addr) (a b c d : Nat) : (Op.equalIn (n + 1) t (.slice (some q) a b) (.slice none c d)).run P w = .ok false w := by simp [Op.equalIn, run_underlying hu]
theorem eq_mpL {k e : TypeId} (hu : P.underlying t = some (.map k e)) (q : Option Nat) : (Op.equalIn (n + 1) t (.map none) (.map q)).run P w = .ok q.isNone w := by simp [Op.equalIn, run_underlying hu]
theorem eq_mpR {k e : TypeId} (hu : P.underlying t = some (.map k e)) (q : Nat) : (Op.equalIn (n + 1) t (.map (some q)) (.map none)).run P w = .ok false w := by simp [Op.equalIn, run_underlying hu]
theorem eq_fnN {a b : Array TypeId} {c : Bool} (hu : P.underlying t = some (.func a b c)) : (Op.equalIn (n + 1) t .nilFunc .nilFunc).run P w = .ok true w := by simp [Op.equalIn, run_underlying hu]
theorem eq_fnL {a b : Array TypeId} {c : Bool} (hu : P.underlying t = some (.func a b c)) (f : Fn) (x y : Array Value) : (Op.equalIn (n + 1) t .nilFunc (.func f x y)).run P w = .ok false w := by simp [Op.equalIn, run_underlying hu]
theorem eq_fnR {a b : Array TypeId} {c : Bool} (hu : P.underlying t = some (.func a b c)) (f : Fn) (x y : Array Value) : (Op.equalIn (n + 1) t (.func f x y) .nilFunc).run P w = .ok false w := by simp [Op.equalIn, run_underlying hu]
end

theorem eqV_ok {t : TypeId} {lit : Bool} {x y x' y' : Value} {b : Bool} (hx : VRel φ x x') (hy : VRel φ y y') (he : eqV P t lit x y = some b) :
    (Op.equal t x' y').run P w = .ok b w ∧ (∀ (op : BinOp) (o1 o2 : Operand), (isConst o1 || isConst o2) = lit → (eqGuard op t o1 o2 x' y').run P w = .ok () w) := by
  unfold eqV at he
  split at he
  · rename_i ti ht
    obtain ⟨info, hi, hu, -⟩ := tiOf_ok ht
    split at he
    · rename_i hd
      cases hx.bool_inv; cases hy.bool_inv
      rw [hd] at hu
      simp only [Option.some.injEq] at he; subst he
      exact ⟨eq_bool 9999 hu _ _, fun op o1 o2 _ => eqGuard_triv (by simp) (by simp)⟩
    · rename_i e q hd
      cases hx
      rw [hd] at hu
      simp only [Option.some.injEq] at he; subst he
      cases hy
      · exact ⟨eq_ptrL 9999 hu _, fun op o1 o2 _ => eqGuard_triv (by simp) (by simp)⟩
      · exact ⟨eq_ptrL 9999 hu _, fun op o1 o2 _ => eqGuard_triv (by simp) (by simp)⟩
    · rename_i e a hd
      cases hx; cases hy
      rw [hd] at hu
      simp only [Option.some.injEq] at he; subst he
      exact ⟨eq_ptrR 9999 hu _, fun op o1 o2 _ => eqGuard_triv (by simp) (by simp)⟩
    · rename_i e i off j off' hd
      split at he
      · rename_i hb
        simp only [Option.some.injEq] at he; subst he
        simp only [Bool.and_eq_true] at hb
        have e1 := beq_true hb.1.1
        have e2 := beq_true hb.1.2
        subst e1; subst e2
        obtain ⟨_, b1, σ1, κ1, hp1, hs1, rfl⟩ := hx.ptr_inv
        obtain ⟨_, b2, σ2, κ2, hp2, hs2, rfl⟩ := hy.ptr_inv
        rw [hp1] at hp2; cases hp2
        rw [hd] at hu
        obtain ⟨te, hte⟩ := Option.isSome_iff_exists.1 hb.2
        obtain ⟨ie, hel, -⟩ := tiOf_ok hte
        exact ⟨eq_ptrS 9999 hu hel _, fun op o1 o2 _ => eqGuard_triv (by simp) (by simp)⟩
      · cases he
    · rename_i ms hd
      cases hx; cases hy
      rw [hd] at hu
      cases lit with
      | false => cases he
      | true =>
        simp only [Option.some.injEq] at he; subst he
        refine ⟨eq_ifN 9999 hu, fun op o1 o2 hl => ?_⟩
        cases op <;> cases o1 <;> cases o2 <;> first | rfl | (simp [isConst] at hl)
    · rename_i ms t2 v2 hd
      cases hx; cases hy
      rw [hd] at hu
      simp only [Option.some.injEq] at he; subst he
      exact ⟨eq_ifL 9999 hu _ _, fun op o1 o2 _ => eqGuard_triv (by simp) (by simp)⟩
    · rename_i ms t2 v2 hd
      cases hx; cases hy
      rw [hd] at hu
      simp only [Option.some.injEq] at he; subst he
      exact ⟨eq_ifR 9999 hu _ _, fun op o1 o2 _ => eqGuard_triv (by simp) (by simp)⟩
    · rename_i ms t2 v2 t3 v3 hd
      cases hx; cases hy
      rename_i w2 hv w3 hw
      rw [hd] at hu
      split at he
      · rename_i heq
        subst heq
        unfold ifSame at he
        split at he
        · rename_i i kk k a k' b hi hk
          split at he
          · rename_i hb
            simp only [Bool.and_eq_true, decide_eq_true_eq] at hb
            obtain ⟨hb, rfl⟩ := hb
            simp only [Option.some.injEq] at he; subst he
            have e1 := hv.int_inv
            have e2 := hw.int_inv
            subst e1; subst e2
            exact ⟨eq_ifS 9998 hu hi hb hk _ _, fun op o1 o2 _ => eqGuard_triv (by simp) (by simp)⟩
          · cases he
        · cases he
      · rename_i hne
        simp only [Option.some.injEq] at he; subst he
        exact ⟨eq_ifD 9999 hu hne _ _, fun op o1 o2 _ => eqGuard_triv (by simp) (by simp)⟩
    · rename_i e _ _ q _ _ hd
      cases hx
      rw [hd] at hu
      simp only [Option.some.injEq] at he; subst he
      cases hy
      · exact ⟨eq_slL 9999 hu _ _ _ _ _, fun op o1 o2 _ => eqGuard_triv (by simp) (by simp)⟩
      · exact ⟨eq_slL 9999 hu _ _ _ _ _, fun op o1 o2 _ => eqGuard_triv (by simp) (by simp)⟩
    · rename_i e a _ _ _ _ hd
      cases hx; cases hy
      rw [hd] at hu
      simp only [Option.some.injEq] at he; subst he
      exact ⟨eq_slR 9999 hu _ _ _ _ _, fun op o1 o2 _ => eqGuard_triv (by simp) (by simp)⟩
    · rename_i k e q hd
      cases hx
      rw [hd] at hu
      simp only [Option.some.injEq] at he; subst he
      cases hy
      · exact ⟨eq_mpL 9999 hu _, fun op o1 o2 _ => eqGuard_triv (by simp) (by simp)⟩
      · exact ⟨eq_mpL 9999 hu _, fun op o1 o2 _ => eqGuard_triv (by simp) (by simp)⟩
    · rename_i k e a hd
      cases hx; cases hy
      rw [hd] at hu
      simp only [Option.some.injEq] at he; subst he
      exact ⟨eq_mpR 9999 hu _, fun op o1 o2 _ => eqGuard_triv (by simp) (by simp)⟩
    · rename_i ps rs vr hd
      cases hx; cases hy
      rw [hd] at hu
      simp only [Option.some.injEq] at he; subst he
      exact ⟨eq_fnN 9999 hu, fun op o1 o2 _ => eqGuard_triv (by simp) (by simp)⟩
    · rename_i ps rs vr fn f c hd
      cases hx; cases hy
      rw [hd] at hu
      simp only [Option.some.injEq] at he; subst he
      exact ⟨eq_fnL 9999 hu _ _ _, fun op o1 o2 _ => eqGuard_triv (by simp) (by simp)⟩
    · rename_i ps rs vr fn f c hd
      cases hx; cases hy
      rw [hd] at hu
      simp only [Option.some.injEq] at he; subst he
      exact ⟨eq_fnR 9999 hu _ _ _, fun op o1 o2 _ => eqGuard_triv (by simp) (by simp)⟩
    · rename_i fs xs ys hd
      split at he
      · rename_i hpl
        simp only [plainEq, Bool.and_eq_true, Bool.not_eq_true'] at hpl
        obtain ⟨⟨hpf, hst⟩, hgu⟩ := hpl
        obtain ⟨xs', rfl, hxs⟩ := hx.agg_inv
        obtain ⟨ys', rfl, hys⟩ := hy.agg_inv
        rw [hd] at hu
        have hfo : P.fieldsOf t = fs := by simp [Program.fieldsOf, hu]
        refine ⟨?_, fun op o1 o2 _ => ?_⟩
        · have := run_equalIn_struct w 9999 t xs' ys' (by rw [hfo]; exact hu) hst
          rw [hfo] at this
          exact this.trans (eqFields_run (n := 9998) xs' ys' fs.toList 0 _ _ b hpf (fieldsEq_rel hxs hys he) (by simp) (by simp))
        · cases op <;> first | rfl | simp [eqGuard, hgu]
      · cases he
    · cases he
  · cases he

theorem intBin_flat {op : BinOp} {k : IntKind} {x y : Int} {v : Value} (h : intBin op k x y = some v) : flat v = true := by
  cases op <;> simp only [intBin] at h <;> (try split at h) <;> first | (cases h; rfl) | cases h
theorem strBin_flat {op : BinOp} {x y : ByteArray} {v : Value} (h : strBin op x y = some v) : flat v = true := by
  cases op <;> simp only [strBin] at h <;> (try split at h) <;> first | (cases h; rfl) | cases h

def eqShape : Value → Bool
  | .bool _ | .pointer _ | .nilIface | .iface _ _ | .slice _ _ _ | .map _ | .func _ _ _ | .nilFunc | .agg _ => true
  | _ => false
theorem eqV_shape {t : TypeId} {lit : Bool} {x y : Value} {b : Bool} (he : eqV P t lit x y = some b) : eqShape x = true := by
  unfold eqV at he
  split at he
  · split at he <;> first | rfl | cases he
  · cases he
theorem VRel.shape {x x' : Value} (hx : VRel φ x x') (h : eqShape x = true) : eqShape x' = true := by
  cases hx <;> first | rfl | (simp [eqShape] at h)
theorem run_eql {t : TypeId} {x y : Value} {b : Bool} (hx : eqShape x = true) (hr : (Op.equal t x y).run P w = .ok b w) : (binOp .eql t x y).run P w = .ok (.bool b) w := by
  have : binOp .eql t x y = (do pure (.bool (← Op.equal t x y)) : Sem Value) := by
    cases x <;> first | (simp [eqShape] at hx; done) | (cases y <;> rfl)
  rw [this]
  simp only [Sem.run_bind, hr, Result.andThen_ok, Sem.run_pure]
theorem run_neq {t : TypeId} {x y : Value} {b : Bool} (hx : eqShape x = true) (hr : (Op.equal t x y).run P w = .ok b w) : (binOp .neq t x y).run P w = .ok (.bool !b) w := by
  have : binOp .neq t x y = (do pure (.bool (!(← Op.equal t x y))) : Sem Value) := by
    cases x <;> first | (simp [eqShape] at hx; done) | (cases y <;> rfl)
  rw [this]
  simp only [Sem.run_bind, hr, Result.andThen_ok, Sem.run_pure]

theorem binV_ok {op : BinOp} {t : TypeId} {o1 o2 : Operand} {x y x' y' v : Value} (hx : VRel φ x x') (hy : VRel φ y y') (hr : binV P op t (isConst o1 || isConst o2) x y = some v) :
    (do eqGuard op t o1 o2 x' y'; binOp op t x' y' : Sem Value).run P w = .ok v w ∧ VRel φ v v := by
  have guard : (¬ (x' = .nilIface ∧ y' = .nilIface) ∧ ¬ ∃ a b, x' = .agg a ∧ y' = .agg b) → (binOp op t x' y').run P w = .ok v w → (do eqGuard op t o1 o2 x' y'; binOp op t x' y' : Sem Value).run P w = .ok v w := by
    intro hg hb
    simp only [Sem.run_bind, eqGuard_triv hg.1 hg.2, Result.andThen_ok]
    exact hb
  unfold binV at hr
  split at hr
  · cases hx.int_inv; cases hy.int_inv
    split at hr
    · cases hr
    · rename_i hb
      simp only [Option.some.injEq] at hr; subst hr
      exact ⟨guard ⟨by simp, by simp⟩ (by simp [binOp, Op.shift, hb]), .int _ _⟩
  · cases hx.int_inv; cases hy.int_inv
    split at hr
    · cases hr
    · rename_i hb
      simp only [Option.some.injEq] at hr; subst hr
      exact ⟨guard ⟨by simp, by simp⟩ (by simp [binOp, Op.shift, hb]), .int _ _⟩
  · cases hx.int_inv; cases hy.int_inv
    split at hr
    · rename_i hk
      subst hk
      have hsh : op ≠ .shl ∧ op ≠ .shr := by
        constructor <;> (rintro rfl; simp [intBin] at hr)
      exact ⟨guard ⟨by simp, by simp⟩ (intBin_ok hsh hr), flat_rel (intBin_flat hr)⟩
    · cases hr
  · cases hx.string_inv; cases hy.string_inv
    exact ⟨guard ⟨by simp, by simp⟩ (strBin_ok hr), flat_rel (strBin_flat hr)⟩
  · split at hr
    · rename_i c hc
      simp only [Option.some.injEq] at hr; subst hr
      obtain ⟨h1, h2⟩ := eqV_ok (w := w) hx hy hc
      refine ⟨?_, .bool _⟩
      simp only [Sem.run_bind, h2 .eql o1 o2 rfl, Result.andThen_ok]
      exact run_eql (hx.shape (eqV_shape hc)) h1
    · cases hr
  · split at hr
    · rename_i c hc
      simp only [Option.some.injEq] at hr; subst hr
      obtain ⟨h1, h2⟩ := eqV_ok (w := w) hx hy hc
      refine ⟨?_, .bool _⟩
      simp only [Sem.run_bind, h2 .neq o1 o2 rfl, Result.andThen_ok]
      exact run_neq (hx.shape (eqV_shape hc)) h1
    · cases hr
  · cases hr

theorem unV_ok {op : UnOp} {x x' v : Value} (hx : VRel φ x x') (hr : unV op x = some v) : (Op.unary op x').run P w = .ok v w ∧ VRel φ v v := by
  unfold unV at hr
  split at hr
  · cases hx.bool_inv
    simp only [Option.some.injEq] at hr; subst hr
    exact ⟨by simp [Op.unary], .bool _⟩
  · cases hx.int_inv
    simp only [Option.some.injEq] at hr; subst hr
    exact ⟨by simp [Op.unary, Op.intArith], .int _ _⟩
  · cases hx.int_inv
    have hf := intBin_flat hr
    simp only [intBin, Option.some.injEq] at hr; subst hr
    exact ⟨by simp [Op.unary, Op.intBits], .int _ _⟩
  · cases hr


end Go.Abs
end

section
/- Conversions, building, slicing, looking up, lengths. -/
open Go.RowKit
namespace Go.Abs
variable {B0 : Zn} {w0 : World} {φ : Map} {h h' : AW} {w : World} {P : Program}

theorem bytesV_ok : ∀ {l : List Value} {bs : List UInt8}, bytesV l = some bs → ∃ ns : List Int, l = ns.map (Value.int .u8) ∧ bs = ns.map fun n => UInt8.ofNat n.toNat := by
  intro l
  induction l with
  | nil => intro bs hb; simp only [bytesV, Option.some.injEq] at hb; subst hb; exact ⟨[], rfl, rfl⟩
  | cons x l ih =>
    intro bs hb
    unfold bytesV at hb
    split at hb
    · rename_i heq; cases heq
    · rename_i n l2 heq
      simp only [List.cons.injEq] at heq
      obtain ⟨rfl, rfl⟩ := heq
      split at hb
      · rename_i r hr
        simp only [Option.some.injEq] at hb; subst hb
        obtain ⟨ns, rfl, rfl⟩ := ih hr
        exact ⟨n :: ns, rfl, rfl⟩
      · cases hb
    · cases hb

theorem LRel_ints {k : IntKind} : ∀ {ns : List Int} {l' : List Value}, LRel φ (ns.map (Value.int k)) l' → l' = ns.map (Value.int k) := by
  intro ns
  induction ns with
  | nil => intro l' h; exact h.nil_left
  | cons n ns ih =>
    intro l' h
    obtain ⟨x, t, rfl, h1, h2⟩ := L2.cons_left (l := ns.map (Value.int k)) (a := .int k n) h
    cases h1.int_inv
    rw [ih h2]; rfl

theorem foldl_push : ∀ (ns : List Int) (s : ByteArray), (ns.foldl (fun r n => r.push (UInt8.ofNat n.toNat)) s) = ⟨⟨s.data.toList ++ ns.map fun n => UInt8.ofNat n.toNat⟩⟩
  | [], s => by simp
  | n :: ns, s => by
    rw [List.foldl_cons, foldl_push ns]
    simp [ByteArray.push]

theorem convQ_ok (H : HRel B0 w0 φ h w) {src dst : TypeId} {x x' v : Value} (hx : VRel φ x x') (hr : convQ P h src dst x = some v) :
    (convert src dst x').run P w = .ok v w ∧ VRel φ v v := by
  unfold convQ at hr
  split at hr
  · rename_i s d hs hd
    obtain ⟨is, his, hus, -⟩ := tiOf_ok hs
    obtain ⟨id, hid, hud, -⟩ := tiOf_ok hd
    split at hr
    · rename_i hdu
      cases hx.int_inv
      simp only [Option.some.injEq] at hr; subst hr
      rw [hdu] at hud
      refine ⟨?_, .int _ _⟩
      simp [convert, run_underlying hus, run_underlying hud, Conv.intToInt]
    · rename_i hdu
      cases hx.int_inv
      simp only [Option.some.injEq] at hr; subst hr
      rw [hdu] at hud
      refine ⟨?_, .string _⟩
      simp [convert, run_underlying hus, run_underlying hud, Conv.intToString]
    · rename_i hdu
      cases hx.string_inv
      simp only [Option.some.injEq] at hr; subst hr
      rw [hdu] at hud
      refine ⟨?_, .string _⟩
      simp [convert, run_underlying hus, run_underlying hud]
    · rename_i hdu
      cases hx.sliceN_inv
      rw [hdu] at hud
      split at hr
      · rename_i e hsu
        rw [hsu] at hus
        split at hr
        · rename_i te hte
          obtain ⟨ie, hie, hue, -⟩ := tiOf_ok hte
          split at hr
          · rename_i heu
            rw [heu] at hue
            simp only [Option.some.injEq] at hr; subst hr
            refine ⟨?_, .string _⟩
            rw [run_convert_bytes_string w src dst e _ _ _ hus hue hud]
            simp [Conv.bytesToString]
          · cases hr
        · cases hr
      · cases hr
    · rename_i i off len cap hdu
      obtain ⟨_, b, σ, κ, a', hp, hσ, ho, rfl⟩ := hx.slice_inv
      rw [hdu] at hud
      split at hr
      · rename_i e hsu
        rw [hsu] at hus
        split at hr
        · rename_i te hte
          obtain ⟨ie, hie, hue, -⟩ := tiOf_ok hte
          split at hr
          · rename_i heu
            rw [heu] at hue
            split at hr
            · rename_i l hl
              split at hr
              · rename_i bs hbs
                simp only [Option.some.injEq] at hr; subst hr
                refine ⟨?_, .string _⟩
                rw [run_convert_bytes_string w src dst e _ _ _ hus hue hud]
                obtain ⟨l', hlr, hlen, hrun⟩ := loadCells_ok (P := P) H hp hl
                obtain ⟨ns, rfl, rfl⟩ := bytesV_ok hbs
                have hl' := LRel_ints hlr
                have hrun2 : (loadCells a' len).run P w = .ok (ns.map (Value.int .u8)).toArray w := by
                  rcases ho with rfl | ⟨rfl, _⟩
                  · rw [hl'] at hrun; exact hrun
                  · have h0 : ns.map (Value.int IntKind.u8) = [] := by rw [← hl']; exact List.eq_nil_of_length_eq_zero hlen
                    rw [h0]; rfl
                rw [run_bytesToString w _ _ _ ns hrun2, foldl_push]
                simp
              · cases hr
            · cases hr
          · cases hr
        · cases hr
      · cases hr
    · cases hr
  · cases hr

theorem bnd_ok {x x' : Value} {n i : Nat} (hx : VRel φ x x') (hi : bnd x n = some i) : ∃ k, x' = .int k (i : Int) ∧ i ≤ n := by
  unfold bnd at hi
  split at hi
  · rename_i k j
    split at hi
    · rename_i hb
      simp only [Option.some.injEq] at hi; subst hi
      exact ⟨k, hx.int_inv, ble_true hb⟩
    · cases hi
  · cases hi

def ORelV (φ : Map) : Option Value → Option Value → Prop
  | none, none => True
  | some x, some y => VRel φ x y
  | _, _ => False

theorem sliceBounds_ok {isSlice : Bool} {len cap : Nat} {lo lo' hi hi' : Option Value} {l u : Nat} (hlo : ORelV φ lo lo') (hhi : ORelV φ hi hi') {cap' : Nat} (hc : cap ≤ cap')
    (h1 : bndO hi cap len = some u) (h2 : bndO lo u 0 = some l) :
    (Instr.sliceBounds isSlice len cap' lo' hi' none).run P w = .ok (l, u, cap') w ∧ l ≤ u ∧ (hi = none → u = len) ∧ (hi ≠ none → u ≤ cap) := by
  cases hi with
  | none =>
    cases hi' with
    | some _ => exact hhi.elim
    | none =>
      simp only [bndO, Option.some.injEq] at h1; subst h1
      cases lo with
      | none =>
        cases lo' with
        | some _ => exact hlo.elim
        | none =>
          simp only [bndO, Option.some.injEq] at h2; subst h2
          exact ⟨by simp [Instr.sliceBounds], by omega, fun _ => rfl, fun h => absurd rfl h⟩
      | some x =>
        cases lo' with
        | none => exact hlo.elim
        | some y =>
          obtain ⟨k, rfl, hle⟩ := bnd_ok hlo h2
          have r := fun c => run_sliceBound (P := P) w k (l : Int) len c (by omega) (by omega)
          exact ⟨by simp [Instr.sliceBounds, r], hle, fun _ => rfl, fun h => absurd rfl h⟩
  | some z =>
    cases hi' with
    | none => exact hhi.elim
    | some z' =>
      obtain ⟨k2, rfl, hle2⟩ := bnd_ok hhi h1
      have r2 := fun c => run_sliceBound (P := P) w k2 (u : Int) cap' c (by omega) (by omega)
      cases lo with
      | none =>
        cases lo' with
        | some _ => exact hlo.elim
        | none =>
          simp only [bndO, Option.some.injEq] at h2; subst h2
          exact ⟨by simp [Instr.sliceBounds, r2], by omega, fun h => (by cases h), fun _ => hle2⟩
      | some x =>
        cases lo' with
        | none => exact hlo.elim
        | some y =>
          obtain ⟨k, rfl, hle⟩ := bnd_ok hlo h2
          have r := fun c => run_sliceBound (P := P) w k (l : Int) u c (by omega) (by omega)
          exact ⟨by simp [Instr.sliceBounds, r, r2], hle, fun h => (by cases h), fun _ => hle2⟩

theorem sliceQ_ok (H : HRel B0 w0 φ h w) {t : TypeId} {x x' v : Value} {lo lo' hi hi' : Option Value} (hx : VRel φ x x') (hlo : ORelV φ lo lo') (hhi : ORelV φ hi hi') (hr : sliceQ P h t x lo hi = some v) :
    ∃ v', (Instr.sliceAt t x' lo' hi' none).run P w = .ok v' w ∧ VRel φ v v' := by
  unfold sliceQ at hr
  split at hr
  · rename_i ti ht
    obtain ⟨it, hit, hut, -⟩ := tiOf_ok ht
    split at hr
    · rename_i s hd
      cases hx.string_inv
      rw [hd] at hut
      split at hr
      · rename_i u hu
        split at hr
        · rename_i l hl
          simp only [Option.some.injEq] at hr; subst hr
          obtain ⟨hb, -⟩ := sliceBounds_ok (P := P) (w := w) (isSlice := false) hlo hhi (Nat.le_refl _) hu hl
          refine ⟨.string (s.extract l u), ?_, ?_⟩
          · simp only [Instr.sliceAt, Instr.slice, Sem.run_bind, run_underlying hut, Result.andThen_ok, Option.isSome_none, Bool.false_eq_true, if_false, hb, Sem.run_pure]
          · have : (⟨⟨(s.data.toList.drop l).take (u - l)⟩⟩ : ByteArray) = s.extract l u := by
              apply ByteArray.ext
              simp only [ByteArray.data_extract]
              apply Array.ext'
              simp [List.extract_eq_take_drop]
            rw [this]; exact .string _
        · cases hr
      · cases hr
    · rename_i elem a len cap hd
      rw [hd] at hut
      split at hr
      · rename_i u hu
        split at hr
        · rename_i l te hl hte hble
          have hble := ble_true hble
          obtain ⟨ie, hie, hue, hagg, hsz, -⟩ := tiOf_ok hte
          split at hr
          · rename_i b off
            simp only [Option.some.injEq] at hr; subst hr
            obtain ⟨_, b', σ, κ, a', hp, hσ, ho, rfl⟩ := hx.slice_inv
            obtain ⟨hb, q1, q3, q4⟩ := sliceBounds_ok (P := P) (w := w) (isSlice := true) (cap' := cap + κ) hlo hhi (by omega) hu hl
            refine ⟨.slice (if cap + κ = l then some a' else some (a'.add (l * ie.size))) (u - l) (cap + κ - l), ?_, ?_⟩
            · simp only [Instr.sliceAt, Instr.slice, Sem.run_bind, run_underlying hut, Result.andThen_ok, hb, run_sizeOf' hie, Sem.run_pure, Option.map_some, Addr.add_lit]
            · rw [show cap + κ - l = (cap - l) + κ from by omega]
              split
              · rename_i hz
                exact VRel.slice hp (by omega) (.inr ⟨by omega, by omega⟩)
              · rename_i hz
                rcases ho with rfl | ⟨rfl, hc0⟩
                · exact VRel.slice hp (by omega) (.inl (by rw [hsz, Addr.add_lit]; congr 1; omega))
                · exact absurd (show cap + κ = l by omega) hz
          · cases hr
          · simp only [Option.some.injEq] at hr; subst hr
            cases hx.sliceN_inv
            obtain ⟨hb, q1, q3, q4⟩ := sliceBounds_ok (P := P) (w := w) (isSlice := true) hlo hhi (Nat.le_refl _) hu hl
            refine ⟨.slice none (u - l) (cap - l), ?_, .sliceN _ _⟩
            simp only [Instr.sliceAt, Instr.slice, Sem.run_bind, run_underlying hut, Result.andThen_ok, hb, run_sizeOf' hie, Sem.run_pure, Option.map_none, ite_self]
        · cases hr
      · cases hr
    · rename_i n elem b off hd
      rw [hd] at hut
      split at hr
      · rename_i u hu
        split at hr
        · rename_i l te cs0 n0 ro0 hl hte hob
          obtain ⟨ie, hie, hue, hagg, hsz, -⟩ := tiOf_ok hte
          simp only [Option.some.injEq] at hr; subst hr
          obtain ⟨_, b', σ, κ, hp, hσ, rfl⟩ := hx.ptr_inv
          obtain ⟨hb, q1, q3, q4⟩ := sliceBounds_ok (P := P) (w := w) (isSlice := false) hlo hhi (Nat.le_refl _) hu hl
          refine ⟨.slice (some (if n = l then ⟨b', off - σ, none⟩ else ⟨b', off - σ + l * ie.size, none⟩)) (u - l) (n - l), ?_, ?_⟩
          · simp only [Instr.sliceAt, Instr.sureAddr, Sem.run_bind, Sem.run_pure, run_underlying hut, Result.andThen_ok, hb, run_sizeOf' hie, Addr.add_lit]
          · have hun : u ≤ n := by
              cases hi with
              | none => exact Nat.le_of_eq (q3 rfl)
              | some _ => exact q4 (by simp)
            obtain ⟨b2, σ2, κ2, hp2, hR⟩ := H.obj b _ hob
            rw [hp] at hp2; cases hp2
            obtain ⟨rfl, rfl, -⟩ := hR
            split
            · rename_i hz
              exact VRel.slice hp (by omega) (.inr ⟨by omega, by omega⟩)
            · rename_i hz
              exact VRel.slice hp (by omega) (.inl (by rw [hsz]; congr 1; try omega))
        · cases hr
      · cases hr
    · cases hr
  · cases hr

theorem fold_set_rel {off : Nat} : ∀ (l l' : List Value) (k : Nat) (cs cs' : Array Value), LRel φ l l' → LRel φ cs.toList cs'.toList →
    LRel φ ((l.zipIdx k).foldl (fun cs (p : Value × Nat) => cs.setIfInBounds (off + p.2) p.1) cs).toList ((l'.zipIdx k).foldl (fun cs (p : Value × Nat) => cs.setIfInBounds (off + p.2) p.1) cs').toList
  | [], l', k, cs, cs', hl, hc => by cases hl.nil_left; exact hc
  | v :: l, l', k, cs, cs', hl, hc => by
    obtain ⟨v', t, rfl, h1, h2⟩ := hl.cons_left
    simp only [List.zipIdx_cons, List.foldl_cons]
    exact fold_set_rel l t (k + 1) _ _ h2 (by simp only [Array.toList_setIfInBounds]; exact hc.set _ h1)

theorem fill_rel {place : Nat → Option (Nat × Nat)} : ∀ (ps ps' : List (Nat × Value)) (cs cs' r : Array Value), L2 (fun (p q : Nat × Value) => p.1 = q.1 ∧ VRel φ p.2 q.2) ps ps' → LRel φ cs.toList cs'.toList →
    Instr.fill place cs ps = some r → ∃ r', Instr.fill place cs' ps' = some r' ∧ LRel φ r.toList r'.toList
  | [], ps', cs, cs', r, hp, hc, hr => by
    cases hp.nil_left
    simp only [Instr.fill, Option.some.injEq] at hr; subst hr
    exact ⟨cs', rfl, hc⟩
  | (i, v) :: ps, ps', cs, cs', r, hp, hc, hr => by
    obtain ⟨⟨i', v'⟩, t, rfl, ⟨rfl, hv⟩, h2⟩ := hp.cons_left
    simp only [Instr.fill] at hr ⊢
    cases hpl : place i with
    | none => simp [hpl] at hr
    | some q =>
      obtain ⟨off, size⟩ := q
      simp only [hpl] at hr ⊢
      have hs : v'.cells.size = v.cells.size := hv.cells_size
      have hcs : cs'.size = cs.size := by have := hc.1; simpa using this.symm
      split at hr
      · cases hr
      · rename_i hcond
        rw [hs, hcs, if_neg hcond]
        refine fill_rel ps t _ _ r h2 ?_ hr
        rw [← Array.foldl_toList, ← Array.foldl_toList, Array.toList_zipIdx, Array.toList_zipIdx]
        exact fold_set_rel v.cells.toList v'.cells.toList 0 cs cs' hv.cells hc

theorem placesOf_ok : ∀ {fs : List Field} {pl : List (Nat × Nat)}, placesOf P fs = some pl → fs.mapM (fun f => (P.info? f.type).map fun i => (f.offset, i.size)) = some pl
  | [], pl, h => by simp only [placesOf, Option.some.injEq] at h; subst h; rfl
  | f :: fs, pl, h => by
    simp only [placesOf] at h
    split at h
    · rename_i tf r htf hr
      simp only [Option.some.injEq] at h; subst h
      obtain ⟨i, hi, _, _, hsz, -⟩ := tiOf_ok htf
      rw [List.mapM_cons, hi, placesOf_ok hr]
      simp [hsz]
    · cases h

theorem buildV_ok {t : TypeId} {ps : List (Nat × Value)} {ps' : Array (Nat × Value)} {v : Value} (hp : L2 (fun (p q : Nat × Value) => p.1 = q.1 ∧ VRel φ p.2 q.2) ps ps'.toList) (hr : buildV P t ps = some v) :
    ∃ v', (Instr.build t ps').run P w = .ok v' w ∧ VRel φ v v' := by
  unfold buildV at hr
  split at hr
  · rename_i ti ht
    obtain ⟨it, hit, hut, hagg, hsz, hby, hz⟩ := tiOf_ok ht
    split at hr
    · rename_i z hzz
      obtain ⟨hz1, hz2, hz3⟩ := hz z hzz
      have hzr : LRel φ z.cells.toList z.cells.toList := (flat_rel hz2).cells
      split at hr
      · rename_i fs hd
        rw [hd] at hut
        split at hr
        · rename_i pl hpl
          split at hr
          · rename_i cs hcs
            simp only [Option.some.injEq] at hr; subst hr
            obtain ⟨r', hf, hrel⟩ := fill_rel _ _ _ _ _ hp hzr hcs
            refine ⟨.agg r', run_build w t ps' r' ?_, VRel.agg' hrel⟩
            simp only [Program.built, hit, hut, hz1, placesOf_ok hpl]
            simpa using hf
          · cases hr
        · cases hr
      · rename_i n elem hd
        rw [hd] at hut
        split at hr
        · rename_i te hte
          obtain ⟨ie, hie, hue, _, hsze, -⟩ := tiOf_ok hte
          split at hr
          · rename_i cs hcs
            simp only [Option.some.injEq] at hr; subst hr
            obtain ⟨r', hf, hrel⟩ := fill_rel _ _ _ _ _ hp hzr hcs
            refine ⟨.agg r', run_build w t ps' r' ?_, VRel.agg' hrel⟩
            simp only [Program.built, hit, hut, hz1, hie]
            rw [← hsze]; exact hf
          · cases hr
        · cases hr
      · cases hr
    · cases hr
  · cases hr

theorem sameNow_rel {d : TypeDesc} {k k' q q' : Value} {b : Bool} (hk : VRel φ k k') (hq : VRel φ q q') (hs : Instr.sameNow d k q = some b) : Instr.sameNow d k' q' = some b := by
  unfold Instr.sameNow at hs
  split at hs
  · cases hk.int_inv; cases hq.int_inv; exact hs
  · cases hk.string_inv; cases hq.string_inv; exact hs
  · cases hk.bool_inv; cases hq.bool_inv; exact hs
  · cases hs

theorem look_ok {d : TypeDesc} {k k' : Value} (hk : VRel φ k k') : ∀ {es : List (Value × Value)} {es' : List MapEntry} (i : Nat) {r : Option Value}, L2 (fun (p : Value × Value) (e : MapEntry) => VRel φ p.1 e.key ∧ VRel φ p.2 e.val) es es' → look d k es = some r →
    (r = none ∧ Instr.findNow d k' es' i = some none) ∨ ∃ v j v', r = some v ∧ Instr.findNow d k' es' i = some (some (j, v')) ∧ VRel φ v v'
  | [], es', i, r, hl, hr => by
    cases hl.nil_left
    simp only [look, Option.some.injEq] at hr; subst hr
    exact .inl ⟨rfl, rfl⟩
  | (q, x) :: es, es', i, r, hl, hr => by
    obtain ⟨e, t, rfl, ⟨h1, h2⟩, h3⟩ := hl.cons_left
    simp only [look] at hr
    split at hr
    · rename_i hs
      simp only [Option.some.injEq] at hr; subst hr
      exact .inr ⟨x, i, e.val, rfl, by simp [Instr.findNow, sameNow_rel hk h1 hs], h2⟩
    · rename_i hs
      rcases look_ok hk (i + 1) h3 hr with ⟨a, b⟩ | ⟨v, j, v', a, b, c⟩
      · exact .inl ⟨a, by simp [Instr.findNow, sameNow_rel hk h1 hs, b]⟩
      · exact .inr ⟨v, j, v', a, by simp [Instr.findNow, sameNow_rel hk h1 hs, b], c⟩
    · cases hr

theorem run_checkKey' {kt : TypeId} {d : TypeDesc} (hd : P.underlying kt = some d) (hk : keyKind d = true) (e : Bool) (n : Nat) (k : Value) : (Instr.checkKey e (n + 1) kt k).run P w = .ok () w := by
  unfold Instr.checkKey
  simp only [Sem.run_bind, run_underlying hd, Result.andThen_ok]
  cases d <;> simp [keyKind] at hk <;> rfl

def lookTail (kt et : TypeId) (k' : Value) (ok : Bool) (es : Array MapEntry) : Sem Value := do
  Instr.checkKey es.isEmpty 10000 kt k'
  let (v, ok') ← match ← Instr.findKey kt k' es.toList with
    | some (_, v) => pure (v, true)
    | none => pure (← zeroValue et, false)
  pure (if ok then .tuple #[v, .bool ok'] else v)

theorem lookup_none {t kt et : TypeId} {k : Value} {ok : Bool} (hu : P.underlying t = some (.map kt et)) : (Instr.lookup t (.map none) k ok).run P w = (lookTail kt et k ok #[]).run P w := by
  unfold Instr.lookup lookTail
  simp only [Sem.run_bind, run_underlying hu, Result.andThen_ok, Sem.run_pure]
  rfl
theorem run_getObj' {b : Nat} {ents : Array MapEntry} {clock : Nat} (hb : w.heap[b]? = some (.map ents clock)) : (getObj b).run P w = .ok (.map ents clock) w := by
  simp [getObj, Sem.run, hb]
theorem run_setObj' {b : Nat} {ents : Array MapEntry} {clock : Nat} (o : Obj) (hb : w.heap[b]? = some (.map ents clock)) : (setObj b o).run P w = .ok () { w with heap := w.heap.setIfInBounds b o } := by
  simp [setObj, Sem.run, hb]
theorem run_findKey' {kt : TypeId} {d : TypeDesc} {k : Value} {l : List MapEntry} {a : Option (Nat × Value)} (hd : P.underlying kt = some d) (h : Instr.findNow d k l 0 = some a) : (Instr.findKey kt k l).run P w = .ok a w := by
  simp [Instr.findKey, run_underlying hd, h]
theorem lookup_some {t kt et : TypeId} {k : Value} {ok : Bool} {b : Nat} {ents : Array MapEntry} {clock : Nat} (hu : P.underlying t = some (.map kt et)) (hb : w.heap[b]? = some (.map ents clock)) :
    (Instr.lookup t (.map (some b)) k ok).run P w = (lookTail kt et k ok ents).run P w := by
  unfold Instr.lookup lookTail
  simp only [Sem.run_bind, run_underlying hu, Result.andThen_ok, Sem.run_pure, run_getObj' hb]
  rfl

theorem lookTail_ok {kt et : TypeId} {k' z : Value} {ok : Bool} {ents : Array MapEntry} {d : TypeDesc} {ie : TypeInfo} {r : Option Value} {v : Value} (huk : P.underlying kt = some d) (hkk : keyKind d = true)
    (hie : P.info? et = some ie) (hz1 : ie.zero = some z) (hz2 : flat z = true)
    (hf : (r = none ∧ Instr.findNow d k' ents.toList 0 = some none) ∨ ∃ v j v', r = some v ∧ Instr.findNow d k' ents.toList 0 = some (some (j, v')) ∧ VRel φ v v')
    (hv : (match r with
      | some v => (match ok with | true => Value.tuple #[v, .bool true] | false => v)
      | none => (match ok with | true => .tuple #[z, .bool false] | false => z)) = v) :
    ∃ v', (lookTail kt et k' ok ents).run P w = .ok v' w ∧ VRel φ v v' := by
  have hck := run_checkKey' (w := w) huk hkk ents.isEmpty 9999 k'
  unfold lookTail
  simp only [Sem.run_bind]
  rw [show (10000 : Nat) = 9999 + 1 from rfl, hck]
  simp only [Result.andThen_ok]
  rcases hf with ⟨rfl, hf⟩ | ⟨x, j, x', rfl, hf, hx⟩
  · rw [run_findKey' huk hf]
    subst hv
    simp only [Result.andThen_ok, Sem.run_bind, run_zeroValue' hie hz1, Sem.run_pure]
    cases ok with
    | true => exact ⟨_, rfl, VRel.tuple' (L2.cons (flat_rel hz2) (L2.cons (.bool _) L2.nil))⟩
    | false => exact ⟨_, rfl, flat_rel hz2⟩
  · rw [run_findKey' huk hf]
    subst hv
    simp only [Result.andThen_ok, Sem.run_bind, Sem.run_pure]
    cases ok with
    | true => exact ⟨_, rfl, VRel.tuple' (L2.cons hx (L2.cons (.bool _) L2.nil))⟩
    | false => exact ⟨_, rfl, hx⟩

theorem lookupV_ok (H : HRel B0 w0 φ h w) {t : TypeId} {m m' k k' v : Value} {ok : Bool} (hm : VRel φ m m') (hk : VRel φ k k') (hr : lookupV P h t m k ok = some v) :
    ∃ v', (Instr.lookup t m' k' ok).run P w = .ok v' w ∧ VRel φ v v' := by
  unfold lookupV at hr
  split at hr
  · rename_i ti ht
    obtain ⟨it, hit, hut, -⟩ := tiOf_ok ht
    split at hr
    · rename_i kt et hd
      rw [hd] at hut
      split at hr
      · rename_i tk te htk hte
        obtain ⟨ik, hik, huk, -⟩ := tiOf_ok htk
        obtain ⟨ie, hie, hue, _, _, _, hz⟩ := tiOf_ok hte
        split at hr
        · rename_i z hkk hzz
          obtain ⟨hz1, hz2, hz3⟩ := hz z hzz
          simp only at hr
          split at hr
          · rename_i x hx
            simp only [Option.some.injEq] at hr
            split at hx
            · simp at hx
            · obtain ⟨b, σ, κ, hp, rfl⟩ := hm.map_inv
              split at hx
              · rename_i es ho
                obtain ⟨ents, clock, hw, hl, -⟩ := H.setMap ho hp
                rw [lookup_some hut hw]
                exact lookTail_ok (r := some x) huk hkk hie hz1 hz2 (look_ok hk 0 hl hx) hr
              · cases hx
            · cases hx
          · rename_i hx
            simp only [Option.some.injEq] at hr
            split at hx
            · cases hm.mapN_inv
              rw [lookup_none hut]
              exact lookTail_ok (r := none) huk hkk hie hz1 hz2 (.inl ⟨rfl, rfl⟩) hr
            · obtain ⟨b, σ, κ, hp, rfl⟩ := hm.map_inv
              split at hx
              · rename_i es ho
                obtain ⟨ents, clock, hw, hl, -⟩ := H.setMap ho hp
                rw [lookup_some hut hw]
                exact lookTail_ok (r := none) huk hkk hie hz1 hz2 (look_ok hk 0 hl hx) hr
              · cases hx
            · cases hx
          · cases hr
        · cases hr
      · cases hr
    · cases hr
  · cases hr

theorem lenB_ok (H : HRel B0 w0 φ h w) {ts : Array TypeId} {ty : TypeId} {args args' : List Value} {v : Value} (ha : LRel φ args args') (hr : lenB P h ts args = some v) :
    (Builtin.len_ ts ty ⟨args'⟩).run P w = .ok v w ∧ VRel φ v v := by
  unfold lenB at hr
  split at hr
  · rename_i t x hts
    obtain ⟨x', t', rfl, hx, ht'⟩ := ha.cons_left
    cases ht'.nil_left
    have hts0 : ts[0]? = some t := by rw [← Array.getElem?_toList, hts]; rfl
    split at hr
    · rename_i ti ht
      obtain ⟨it, hit, hut, -⟩ := tiOf_ok ht
      have h0 : (#[x'] : Array Value)[0]? = some x' := rfl
      split at hr
      · rename_i s hd
        cases hx.string_inv
        rw [hd] at hut
        simp only [Option.some.injEq] at hr; subst hr
        exact ⟨by simp [Builtin.len_, hts0, run_underlying hut], .int _ _⟩
      · rename_i n e hd
        rw [hd] at hut
        simp only [Option.some.injEq] at hr; subst hr
        exact ⟨by simp [Builtin.len_, hts0, run_underlying hut], .int _ _⟩
      · rename_i arr hd
        rw [hd] at hut
        split at hr
        · rename_i ta hta
          obtain ⟨ia, hia, hua, -⟩ := tiOf_ok hta
          split at hr
          · rename_i n e hda
            rw [hda] at hua
            simp only [Option.some.injEq] at hr; subst hr
            exact ⟨by simp [Builtin.len_, hts0, run_underlying hut, run_underlying hua], .int _ _⟩
          · cases hr
        · cases hr
      · rename_i e a n c hd
        rw [hd] at hut
        simp only [Option.some.injEq] at hr; subst hr
        cases hx with
        | sliceN => exact ⟨by simp [Builtin.len_, hts0, run_underlying hut], .int _ _⟩
        | slice => exact ⟨by simp [Builtin.len_, hts0, run_underlying hut], .int _ _⟩
      · rename_i k e hd
        cases hx.mapN_inv
        rw [hd] at hut
        simp only [Option.some.injEq] at hr; subst hr
        exact ⟨by simp [Builtin.len_, hts0, run_underlying hut], .int _ _⟩
      · rename_i k e r hd
        rw [hd] at hut
        obtain ⟨b, σ, κ, hp, rfl⟩ := hx.map_inv
        split at hr
        · rename_i es ho
          obtain ⟨ents, clock, hw, hl, -⟩ := H.setMap ho hp
          simp only [Option.some.injEq] at hr; subst hr
          have hsz : ents.size = es.length := by have := hl.1; simpa using this.symm
          exact ⟨by simp [Builtin.len_, hts0, run_underlying hut, run_getObj' hw, hsz], .int _ _⟩
        · cases hr
      · cases hr
    · cases hr
  · cases hr

theorem capB_ok (H : HRel B0 w0 φ h w) {ts : Array TypeId} {ty : TypeId} {args args' : List Value} {v : Value} (ha : LRel φ args args') (hr : capB P h ts args = some v) :
    (Builtin.cap_ ts ty ⟨args'⟩).run P w = .ok v w ∧ VRel φ v v := by
  unfold capB at hr
  split at hr
  · rename_i t x hts
    obtain ⟨x', t', rfl, hx, ht'⟩ := ha.cons_left
    cases ht'.nil_left
    have hts0 : ts[0]? = some t := by rw [← Array.getElem?_toList, hts]; rfl
    split at hr
    · rename_i ti ht
      obtain ⟨it, hit, hut, -⟩ := tiOf_ok ht
      split at hr
      · rename_i e n c hd
        cases hx.sliceN_inv
        rw [hd] at hut
        simp only [Option.some.injEq] at hr; subst hr
        exact ⟨by simp [Builtin.cap_, hts0, run_underlying hut], .int _ _⟩
      · rename_i e i o s n c hd
        obtain ⟨_, b, σ, κ, a', hp, hσ, ho, rfl⟩ := hx.slice_inv
        rw [hd] at hut
        split at hr
        · rename_i cs m ro hob
          obtain ⟨b2, σ2, κ2, hp2, hR⟩ := H.obj i _ hob
          rw [hp] at hp2; cases hp2
          obtain ⟨rfl, rfl, -⟩ := hR
          simp only [Option.some.injEq] at hr; subst hr
          exact ⟨by simp [Builtin.cap_, hts0, run_underlying hut], .int _ _⟩
        · cases hr
      · cases hr
    · cases hr
  · cases hr

theorem minL_ok : ∀ {l l' : List Value} {x x' v : Value}, VRel φ x x' → LRel φ l l' → minL x l = some v → ∃ v', (l'.foldlM Builtin.min2 x').run P w = .ok v' w ∧ VRel φ v v'
  | [], l', x, x', v, hx, hl, hr => by
    cases hl.nil_left
    simp only [minL, Option.some.injEq] at hr; subst hr
    exact ⟨x', rfl, hx⟩
  | y :: l, l', x, x', v, hx, hl, hr => by
    obtain ⟨y', t, rfl, hy, ht⟩ := hl.cons_left
    unfold minL at hr
    split at hr
    · rename_i heq; cases heq
    · rename_i k a k2 b l2 heq
      simp only [List.cons.injEq] at heq
      obtain ⟨rfl, rfl⟩ := heq
      cases hx.int_inv; cases hy.int_inv
      obtain ⟨v', h1, h2⟩ := minL_ok (.int _ _) ht hr
      refine ⟨v', ?_, h2⟩
      simp only [List.foldlM_cons, Sem.run_bind, Builtin.min2, Sem.run_pure, Result.andThen_ok]
      exact h1
    · rename_i a b l2 heq
      simp only [List.cons.injEq] at heq
      obtain ⟨rfl, rfl⟩ := heq
      cases hx.string_inv; cases hy.string_inv
      obtain ⟨v', h1, h2⟩ := minL_ok (.string _) ht hr
      refine ⟨v', ?_, h2⟩
      simp only [List.foldlM_cons, Sem.run_bind, Builtin.min2, Op.stringOp, asBool, Sem.run_pure, Result.andThen_ok, ByteArray.toList_eq]
      exact h1
    · cases hr

theorem maxL_ok : ∀ {l l' : List Value} {x x' v : Value}, VRel φ x x' → LRel φ l l' → maxL x l = some v → ∃ v', (l'.foldlM Builtin.max2 x').run P w = .ok v' w ∧ VRel φ v v'
  | [], l', x, x', v, hx, hl, hr => by
    cases hl.nil_left
    simp only [maxL, Option.some.injEq] at hr; subst hr
    exact ⟨x', rfl, hx⟩
  | y :: l, l', x, x', v, hx, hl, hr => by
    obtain ⟨y', t, rfl, hy, ht⟩ := hl.cons_left
    unfold maxL at hr
    split at hr
    · rename_i heq; cases heq
    · rename_i k a k2 b l2 heq
      simp only [List.cons.injEq] at heq
      obtain ⟨rfl, rfl⟩ := heq
      cases hx.int_inv; cases hy.int_inv
      obtain ⟨v', h1, h2⟩ := maxL_ok (.int _ _) ht hr
      refine ⟨v', ?_, h2⟩
      simp only [List.foldlM_cons, Sem.run_bind, Builtin.max2, Sem.run_pure, Result.andThen_ok]
      exact h1
    · rename_i a b l2 heq
      simp only [List.cons.injEq] at heq
      obtain ⟨rfl, rfl⟩ := heq
      cases hx.string_inv; cases hy.string_inv
      obtain ⟨v', h1, h2⟩ := maxL_ok (.string _) ht hr
      refine ⟨v', ?_, h2⟩
      simp only [List.foldlM_cons, Sem.run_bind, Builtin.max2, Op.stringOp, asBool, Sem.run_pure, Result.andThen_ok, ByteArray.toList_eq]
      exact h1
    · cases hr

theorem builtinQ_ok (H : HRel B0 w0 φ h w) {b : Builtin} {ts : Array TypeId} {ty : TypeId} {cs : Array Bool} {args args' : List Value} {v : Value} (ha : LRel φ args args') (hr : builtinQ P h b ts args = some v) :
    ∃ v', (builtin b ts ty cs ⟨args'⟩).run P w = .ok (.value v') w ∧ VRel φ v v' := by
  unfold builtinQ at hr
  split at hr
  · obtain ⟨h1, h2⟩ := lenB_ok (P := P) (ty := ty) H ha hr
    exact ⟨v, by simp only [builtin, Sem.run_bind, h1, Result.andThen_ok, Sem.run_pure], h2⟩
  · obtain ⟨h1, h2⟩ := capB_ok (P := P) (ty := ty) H ha hr
    exact ⟨v, by simp only [builtin, Sem.run_bind, h1, Result.andThen_ok, Sem.run_pure], h2⟩
  · split at hr
    · obtain ⟨x', t, rfl, hx, ht⟩ := ha.cons_left
      obtain ⟨v', h1, h2⟩ := minL_ok (P := P) (w := w) hx ht hr
      exact ⟨v', by simp only [builtin, Builtin.min_, Sem.run_bind, h1, Result.andThen_ok, Sem.run_pure], h2⟩
    · cases hr
  · split at hr
    · obtain ⟨x', t, rfl, hx, ht⟩ := ha.cons_left
      obtain ⟨v', h1, h2⟩ := maxL_ok (P := P) (w := w) hx ht hr
      exact ⟨v', by simp only [builtin, Builtin.max_, Sem.run_bind, h1, Result.andThen_ok, Sem.run_pure], h2⟩
    · cases hr
  · cases hr

theorem nilCheckV_shape {x x' v : Value} (hx : VRel φ x x') (hr : nilCheckV x = some v) : v = x ∧ (x' ≠ .pointer none ∧ x' ≠ .nilIface ∧ x' ≠ .nilFunc ∧ ∀ n f c, x' ≠ .func (.method n) f c) := by
  unfold nilCheckV at hr
  split at hr
  · cases hr
  · cases hr
  · cases hr
  · cases hr
  · rename_i n1 n2 n3 n4
    simp only [Option.some.injEq] at hr; subst hr
    refine ⟨rfl, ?_, ?_, ?_, ?_⟩
    · rintro rfl; cases hx; exact n1 rfl
    · rintro rfl; cases hx; exact n2 rfl
    · rintro rfl; cases hx; exact n3 rfl
    · rintro n f c rfl; cases hx; exact n4 _ _ _ rfl

/-- Whatever an operation's operands come to: related values. -/
def Rev (φ : Map) (F : Fr) (ρ : Operand → Value) (l : List Operand) : Prop := ∀ x, x ∈ l → VRel φ (F.ev x) (ρ x)

theorem Rev.list {F : Fr} {ρ : Operand → Value} {l : List Operand} (hr : Rev φ F ρ l) {m : List Operand} (hm : ∀ x, x ∈ m → x ∈ l) : LRel φ (m.map F.ev) (m.map ρ) :=
  L2.self_map fun a ha => hr a (hm a ha)
theorem Rev.vals {F : Fr} {ρ : Operand → Value} {l : List Operand} (hr : Rev φ F ρ l) {m : Array Operand} (hm : ∀ x, x ∈ m.toList → x ∈ l) : LRel φ (vals F m) (m.map ρ).toList := by
  rw [Array.toList_map]; exact hr.list hm
theorem Rev.pairs {F : Fr} {ρ : Operand → Value} {l : List Operand} (hr : Rev φ F ρ l) {m : List (Nat × Operand)} (hm : ∀ p, p ∈ m → p.2 ∈ l) :
    L2 (fun (p q : Nat × Value) => p.1 = q.1 ∧ VRel φ p.2 q.2) (m.map fun p => (p.1, F.ev p.2)) (m.map fun p => (p.1, ρ p.2)) :=
  L2.self_map fun a ha => ⟨rfl, hr a.2 (hm a ha)⟩
theorem Rev.opt {F : Fr} {ρ : Operand → Value} {l : List Operand} (hr : Rev φ F ρ l) {x : Option Operand} (hm : ∀ y, x = some y → y ∈ l) : ORelV φ (x.map F.ev) (x.map ρ) := by
  cases x with
  | none => trivial
  | some y => exact hr y (hm y rfl)

theorem opQ_ok (H : HRel B0 w0 φ h w) {F : Fr} {ρ : Operand → Value} {o : Oper} {v : Value} (hv : Rev φ F ρ o.op.operands.toList) (hr : opQ P F h o.op = some v) :
    ∃ v', (execOp ρ o).run P w = .ok (.value v') w ∧ VRel φ v v' := by
  obtain ⟨dst, op, type, pos, after, guard⟩ := o
  simp only at hv hr
  have Q : ∀ {s : Sem Value} {v'}, s.run P w = .ok v' w → (do pure (Next.value (← s)) : Sem Next).run P w = .ok (.value v') w := fun hs => by
    simp only [Sem.run_bind, hs, Result.andThen_ok, Sem.run_pure]
  unfold opQ at hr
  split at hr
  · simp only [Option.some.injEq] at hr; subst hr
    exact ⟨_, rfl, hv _ (by simp [Op.operands])⟩
  · simp only [Option.some.injEq] at hr; subst hr
    exact ⟨_, rfl, hv _ (by simp [Op.operands])⟩
  · rename_i c a b
    have hc := hv c (by simp [Op.operands])
    split at hr
    · rename_i he
      rw [he] at hc
      simp only [Option.some.injEq] at hr; subst hr
      exact ⟨ρ a, by simp [execOp, hc.bool_inv, asBool], hv a (by simp [Op.operands])⟩
    · rename_i he
      rw [he] at hc
      simp only [Option.some.injEq] at hr; subst hr
      exact ⟨ρ b, by simp [execOp, hc.bool_inv, asBool], hv b (by simp [Op.operands])⟩
    · cases hr
  · rename_i t parts
    obtain ⟨v', h1, h2⟩ := buildV_ok (P := P) (w := w) (ps' := parts.map fun (i, x) => (i, ρ x)) (by
      rw [Array.toList_map]
      exact hv.pairs (fun p hp => by simp only [Op.operands]; simp; exact ⟨p.1, by simpa using hp⟩)) hr
    exact ⟨v', Q h1, h2⟩
  · rename_i t a
    obtain ⟨v', h1, h2⟩ := loadV_ok (P := P) H (hv a (by simp [Op.operands])) hr
    exact ⟨v', Q h1, h2⟩
  · rename_i x
    obtain ⟨rfl, n1, n2, n3, n4⟩ := nilCheckV_shape (hv x (by simp [Op.operands])) hr
    refine ⟨ρ x, ?_, hv x (by simp [Op.operands])⟩
    have he : execOp ρ ⟨dst, .nilCheck x, type, pos, after, guard⟩ = pure (.value (ρ x)) := by
      simp only [execOp]
    rw [he]; rfl
  · rename_i op t x y yt
    obtain ⟨h1, h2⟩ := binV_ok (P := P) (w := w) (hv x (by simp [Op.operands])) (hv y (by simp [Op.operands])) hr
    exact ⟨v, Q h1, h2⟩
  · rename_i op t x
    obtain ⟨h1, h2⟩ := unV_ok (P := P) (w := w) (hv x (by simp [Op.operands])) hr
    exact ⟨v, Q h1, h2⟩
  · rename_i s d x
    obtain ⟨h1, h2⟩ := convQ_ok (P := P) H (hv x (by simp [Op.operands])) hr
    exact ⟨v, Q h1, h2⟩
  · rename_i t x
    split at hr
    · rename_i ti ht
      obtain ⟨it, hit, hut, -⟩ := tiOf_ok ht
      have hx := hv x (by simp [Op.operands])
      split at hr
      · cases hr
      · rename_i hni
        simp only [Option.some.injEq] at hr; subst hr
        refine ⟨.iface t (ρ x), Q ?_, .iface t hx⟩
        simp only [Instr.makeInterface, Sem.run_bind, run_underlying hut, Result.andThen_ok]
        rfl
    · cases hr
  · rename_i fn first captured
    simp only [Option.some.injEq] at hr; subst hr
    refine ⟨.func fn (first.map ρ) (captured.map ρ), Q rfl, ?_⟩
    exact VRel.func' fn (hv.vals (fun x hx => by simp [Op.operands] at hx ⊢; exact .inl hx)) (hv.vals (fun x hx => by simp [Op.operands] at hx ⊢; exact .inr hx))
  · rename_i t x lo hi
    obtain ⟨v', h1, h2⟩ := sliceQ_ok (P := P) H (hv x (by simp [Op.operands])) (hv.opt (x := lo) (fun y hy => by subst hy; simp [Op.operands])) (hv.opt (x := hi) (fun y hy => by subst hy; simp [Op.operands])) hr
    exact ⟨v', Q h1, h2⟩
  · rename_i t x f
    obtain ⟨v', h1, h2⟩ := fieldAddrV_ok (P := P) (w := w) (hv x (by simp [Op.operands])) hr
    exact ⟨v', Q h1, h2⟩
  · rename_i t x f
    obtain ⟨v', h1, h2⟩ := fieldV_ok (P := P) (w := w) (hv x (by simp [Op.operands])) hr
    exact ⟨v', Q h1, h2⟩
  · rename_i t x i
    obtain ⟨v', h1, h2⟩ := indexAddrV_ok (P := P) (w := w) (hv x (by simp [Op.operands])) (hv i (by simp [Op.operands])) hr
    exact ⟨v', Q h1, h2⟩
  · rename_i t x i
    obtain ⟨v', h1, h2⟩ := indexV_ok (P := P) (w := w) (hv x (by simp [Op.operands])) (hv i (by simp [Op.operands])) hr
    exact ⟨v', Q h1, h2⟩
  · rename_i t m k ok
    obtain ⟨v', h1, h2⟩ := lookupV_ok (P := P) H (hv m (by simp [Op.operands])) (hv k (by simp [Op.operands])) hr
    exact ⟨v', Q h1, h2⟩
  · rename_i x i
    have hx := hv x (by simp [Op.operands])
    split at hr
    · rename_i vs he
      rw [he] at hx
      obtain ⟨cs', hc, hl⟩ := hx.tuple_inv
      obtain ⟨v', hv', hr'⟩ := hl.get (i := i) (v := v) (by simpa using hr)
      refine ⟨v', Q ?_, hr'⟩
      have hv2 : cs'[i]? = some v' := by simpa using hv'
      simp [Instr.extract, hc, hv2]
    · cases hr
  · rename_i b args ats
    obtain ⟨v', h1, h2⟩ := builtinQ_ok (P := P) (ty := type) (cs := args.map fun | .const _ => true | _ => false) H (hv.vals (m := args) (fun x hx => by simpa [Op.operands, Call.operands] using hx)) hr
    refine ⟨v', ?_, h2⟩
    simp only [execOp, resolve, Sem.run_bind, Sem.run_pure, Result.andThen_ok, invoke]
    exact h1
  · cases hr

end Go.Abs
end

section
/- The operations that make memory or turn it, held against the model's. -/
open Go.RowKit
namespace Go.Abs
variable {B0 : Zn} {w0 : World} {φ : Map} {h h' : AW} {w : World} {P : Program}

theorem rep_length (l : List Value) : ∀ n, (rep l n).length = n * l.length
  | 0 => by simp [rep]
  | n + 1 => by simp [rep, rep_length l n, Nat.add_mul]; omega
theorem rep_get (l : List Value) : ∀ (n i : Nat), i < n * l.length → (rep l n)[i]? = l[i % l.length]?
  | 0, i, h => by simp at h
  | n + 1, i, h => by
    simp only [rep]
    by_cases hi : i < l.length
    · rw [List.getElem?_append_left hi, Nat.mod_eq_of_lt hi]
    · have hle : l.length ≤ i := Nat.le_of_not_lt hi
      rw [List.getElem?_append_right hle, rep_get l n (i - l.length) (by rw [Nat.add_mul] at h; omega), Nat.mod_eq_sub_mod hle]
theorem rep_range (z : Array Value) (n : Nat) : (Array.range (n * z.size)).map (fun i => z[i % z.size]!) = ⟨rep z.toList n⟩ := by
  apply Array.ext'
  apply List.ext_getElem?
  intro i
  by_cases hi : i < n * z.size
  · have hpos : 0 < z.size := (Nat.eq_zero_or_pos z.size).elim (fun h => by rw [h] at hi; simp at hi) id
    have hm : i % z.size < z.size := Nat.mod_lt _ hpos
    have h2 := rep_get z.toList n i (by simpa using hi)
    simp only [Array.length_toList] at h2
    rw [h2]
    simp [hi, hm]
  · have h1 : (rep z.toList n)[i]? = none := List.getElem?_eq_none (by rw [rep_length]; simp; omega)
    rw [h1]
    simp; omega
theorem rep_flat {z : Value} (hz : flat z = true) (n : Nat) : LRel φ (rep z.cells.toList n) (rep z.cells.toList n) := by
  induction n with
  | zero => exact L2.nil
  | succ n ih => exact L2.append (flat_rel hz).cells ih

theorem wrap_nat {n : Nat} (h : n ≤ 9223372036854775807) : IntKind.i64.wrap (n : Int) = n := by
  have e1 : (2 : Int) ^ IntKind.i64.bits = 18446744073709551616 := by decide
  have e2 : (2 : Int) ^ (IntKind.i64.bits - 1) = 9223372036854775808 := by decide
  unfold IntKind.wrap
  rw [e1, e2]
  simp only [IntKind.signed, Bool.true_and, decide_eq_true_eq]
  have : (n : Int) % 18446744073709551616 = n := by omega
  rw [this, if_neg (by omega)]

theorem run_newVar' (t : TypeId) (v : Value) : (newVar t v).run P w = .ok ⟨w.heap.size, 0, none⟩ (w.alloc (.cells v.cells t)) := by
  simp [newVar, newRow]

def Out (B0 : Zn) (w0 : World) (φ : Map) (s : Sem Value) (P : Program) (w : World) (v : Value) (h' : AW) : Prop :=
  ∃ ψ v' w', s.run P w = .ok v' w' ∧ φ.le ψ ∧ VRel ψ v v' ∧ HRel B0 w0 ψ h' w'

theorem alloc_ok (H : HRel B0 w0 φ h w) {t : TypeId} {ti : TI} {z : Value} {i : Nat} (ht : tiOf P t = some ti) (hz : ti.zero = some z) (hn : h.newVar z.cells.toList = some (i, h')) :
    Out B0 w0 φ (Instr.alloc t true (.tuple #[])) P w (ptr i 0) h' := by
  obtain ⟨it, hit, hut, _, _, _, hzz⟩ := tiOf_ok ht
  obtain ⟨hz1, hz2, hz3⟩ := hzz z hz
  obtain ⟨ψ, h1, h2, h3⟩ := H.newVar hn (flat_rel hz2).cells t
  refine ⟨ψ, .pointer (some ⟨w.heap.size, 0, none⟩), _, ?_, h1, VRel.ptr h2 (Nat.zero_le _), h3⟩
  simp only [Instr.alloc, Sem.run_bind, run_zeroValue' hit hz1, Result.andThen_ok, run_newVar', Sem.run_pure]

theorem box_ok (H : HRel B0 w0 φ h w) {t : TypeId} {x x' : Value} {i : Nat} (hx : VRel φ x x') (hn : h.newVar x.cells.toList = some (i, h')) :
    Out B0 w0 φ (Instr.box t x') P w (ptr i 0) h' := by
  obtain ⟨ψ, h1, h2, h3⟩ := H.newVar hn hx.cells t
  refine ⟨ψ, .pointer (some ⟨w.heap.size, 0, none⟩), _, ?_, h1, VRel.ptr h2 (Nat.zero_le _), h3⟩
  simp only [Instr.box, Sem.run_bind, Result.andThen_ok, run_newVar', Sem.run_pure]

theorem buildSlice_run {t : TypeId} {len : Nat} {ps : List (Nat × Value)} {ps' : Array (Nat × Value)} {v : Value} (hp : L2 (fun (p q : Nat × Value) => p.1 = q.1 ∧ VRel φ p.2 q.2) ps ps'.toList)
    (hr : buildSliceV P h t len ps = some (v, h')) :
    ∃ i cells cells' e, h.newVar cells = some (i, h') ∧ LRel φ cells cells' ∧ (∀ (ψ : Map) b, ψ i = some (b, 0, 0) → VRel ψ v (.slice (some ⟨b, 0, none⟩) len (len + 0))) ∧
      ∀ w, (Instr.buildSlice t len ps').run P w = .ok (.slice (some ⟨w.heap.size, 0, none⟩) len (len + 0)) (w.alloc (.cells ⟨cells'⟩ e)) := by
  unfold buildSliceV at hr
  split at hr
  · rename_i ti ht
    obtain ⟨it, hit, hut, -⟩ := tiOf_ok ht
    split at hr
    · rename_i elem hd
      rw [hd] at hut
      split at hr
      · rename_i te hte
        obtain ⟨ie, hie, hue, _, hsz, _, hz⟩ := tiOf_ok hte
        split at hr
        · rename_i z hzz hble
          obtain ⟨hz1, hz2, hz3⟩ := hz z hzz
          split at hr
          · rename_i hbz
            split at hr
            · rename_i cs hcs
              split at hr
              · rename_i i h2 hn
                simp only [Option.some.injEq, Prod.mk.injEq] at hr
                obtain ⟨rfl, rfl⟩ := hr
                obtain ⟨r', hf, hrel⟩ := fill_rel _ _ _ _ _ hp (rep_flat hz2 len) hcs
                refine ⟨i, _, r'.toList, elem, hn, hrel, fun ψ b hb => VRel.slice hb (Nat.zero_le _) (.inl rfl), fun w => ?_⟩
                have hle := ble_true hble
                have hfill : Instr.fill (fun i => some (i * ie.size, ie.size)) ((Array.range (len * ie.size)).map ((if len * ie.size = 0 then #[] else z.cells)[· % (if len * ie.size = 0 then #[] else z.cells).size]!)) ps'.toList = some r' := by
                  rw [← hsz]
                  by_cases h0 : len * te.size = 0
                  · simp only [h0, if_true]
                    have : rep z.cells.toList len = [] := List.eq_nil_of_length_eq_zero (by rw [rep_length]; simp [hz3, h0])
                    rw [this] at hf
                    have e : (Array.map (fun x => (#[] : Array Value)[x % (#[] : Array Value).size]!) (Array.range 0)) = ⟨[]⟩ := by simp
                    rw [e]; exact hf
                  · simp only [h0, if_false]
                    have e := rep_range z.cells len
                    rw [hz3] at e
                    rw [hz3, e]
                    exact hf
                simp only [Instr.buildSlice, Sem.run_bind, run_underlying hut, Result.andThen_ok, run_sizeOf' hie, ← hsz]
                rw [if_neg (by omega)]
                rw [← hsz] at hfill
                by_cases h0 : len * te.size = 0
                · simp only [h0, if_true] at hfill ⊢
                  simp only [Sem.run_bind, Sem.run_pure, Result.andThen_ok]
                  rw [hfill]
                  simp [newRow]
                · simp only [h0, if_false] at hfill ⊢
                  simp only [Sem.run_bind, run_zeroValue' hie hz1, Sem.run_pure, Result.andThen_ok]
                  rw [hfill]
                  simp [newRow]
              · cases hr
            · cases hr
          · cases hr
        · cases hr
      · cases hr
    · cases hr
  · cases hr
theorem buildSlice_ok (H : HRel B0 w0 φ h w) {t : TypeId} {len : Nat} {ps : List (Nat × Value)} {ps' : Array (Nat × Value)} {v : Value} (hp : L2 (fun (p q : Nat × Value) => p.1 = q.1 ∧ VRel φ p.2 q.2) ps ps'.toList)
    (hr : buildSliceV P h t len ps = some (v, h')) : Out B0 w0 φ (Instr.buildSlice t len ps') P w v h' := by
  obtain ⟨i, cells, cells', e, hn, hl, hv, hrun⟩ := buildSlice_run (P := P) hp hr
  obtain ⟨ψ, h1, h2, h3⟩ := H.newVar hn hl e
  exact ⟨ψ, _, _, hrun w, h1, hv ψ _ h2, h3⟩

theorem ofBytes_rel (l : List UInt8) : LRel φ (ofBytes l) (ofBytes l) := by
  induction l with
  | nil => exact L2.nil
  | cons b l ih => exact L2.cons (.int _ _) ih

theorem appendCap_ge {need old : Nat} {e : TypeId} {t : Nat} : need ≤ (Question.appendCap need old e).cut t := by simp [Question.cut]

theorem run_markStringish (w : World) (b n : Nat) : (markStringish ⟨b, 0, none⟩).run P w = .ok () (match w.shape? b with | some (_, n) => w.freeze ⟨b, n, none⟩ 1 | none => w) := by
  unfold markStringish
  simp only [Sem.run_bind, run_shape, Result.andThen_ok]
  cases w.shape? b with
  | none => rfl
  | some p => rfl

/-- The mark behind a fresh row's end turns no cell. -/
theorem HRel.mark {b : Nat} {c : Array Value} {e : TypeId} (H : HRel B0 w0 φ h w) (hb : w.heap[b]? = some (.cells c e (0, 0))) (hB : ¬ B0.Z b) : HRel B0 w0 φ h (w.freeze ⟨b, c.size, none⟩ 1) := by
  have hblk : (w.freeze ⟨b, c.size, none⟩ 1).heap[b]? = some (.cells c e (c.size, c.size + 1)) := by
    simp only [World.freeze]
    rw [if_neg (by omega)]
    simp only [Array.getElem?_modify, if_true, hb, Option.map_some]
    rfl
  have hother : ∀ k, k ≠ b → (w.freeze ⟨b, c.size, none⟩ 1).heap[k]? = w.heap[k]? := by
    intro k hk
    simp only [World.freeze]
    rw [if_neg (by omega)]
    simp only [Array.getElem?_modify]
    rw [if_neg (fun e => hk e.symm)]
  have hcell : ∀ a : Addr, (w.freeze ⟨b, c.size, none⟩ 1).cell? a = w.cell? a := by
    intro a
    by_cases hab : a.block = b
    · simp only [World.cell?, hab, hblk, hb]
    · simp only [World.cell?, hother _ hab]
  have hfr : ∀ k : Nat, k < c.size → (w.freeze ⟨b, c.size, none⟩ 1).frozen? ⟨b, k, none⟩ = false := by
    intro k hk
    simp only [World.frozen?, hblk]
    simp
    omega
  have hsz : (w.freeze ⟨b, c.size, none⟩ 1).heap.size = w.heap.size := by
    simp only [World.freeze]; rw [if_neg (by omega)]; simp
  have hin : ∀ k u, w.cell? ⟨b, k, none⟩ = some u → k < c.size := by
    intro k u hu
    simp only [World.cell?, hb] at hu
    simp at hu
    exact (Array.getElem?_eq_some_iff.1 hu).1
  refine ⟨H.base, BelowZ.growTo H.below (by simp [World.freeze]) (by simp [World.freeze]) (by simp [World.freeze]) (by rw [hsz]; exact Nat.le_refl _) (fun k hk => hother k (fun e => hB (e ▸ hk))), H.dom, fun i o x ho hx => by rw [hsz]; exact H.lto i o x ho hx, ?_, H.fam, H.sep, H.ty.same (Cast.freeze _ _ _) rfl (Nat.le_refl _)⟩
  intro i o ho
  obtain ⟨b2, σ, κ, hp, hR⟩ := H.obj i o ho
  refine ⟨b2, σ, κ, hp, ?_⟩
  by_cases hbb : b2 = b
  · subst hbb
    cases o with
    | var cs n ro =>
      obtain ⟨e1, e2, e3, e4, e5⟩ := hR
      refine ⟨e1, e2, fun off v a1 a2 => by rw [hcell]; exact e3 off v a1 a2, fun hro => ?_, e5⟩
      obtain ⟨q1, q2⟩ := e4 hro
      refine ⟨q1, fun off hoff => ?_⟩
      obtain ⟨⟨u, hu⟩, hf⟩ := q2 off hoff
      exact ⟨⟨u, by rw [hcell]; exact hu⟩, hfr off (hin off u hu)⟩
    | row f g lo hi sz cs =>
      intro fm hf hg
      obtain ⟨q1, q2, q3, q4, q5, q6⟩ := hR fm hf hg
      refine ⟨q1, q2, q3, fun c v a1 a2 a3 => by rw [hcell]; exact q4 c v a1 a2 a3, fun c a1 a2 => by rw [hcell]; exact q5 c a1 a2, fun c a0 a1 a2 => ?_⟩
      obtain ⟨u, hu⟩ := q5 c a1 a2
      exact hfr _ (hin _ u hu)
    | map es =>
      obtain ⟨e1, e2, e3, ents, clock, hm, _⟩ := hR
      rw [hb] at hm; cases hm
  · exact hR.same (hother b2 hbb)

theorem convA_ok (H : HRel B0 w0 φ h w) {src dst : TypeId} {x x' v : Value} (hx : VRel φ x x') (hr : convA P h src dst x = some (v, h')) : Out B0 w0 φ (convert src dst x') P w v h' := by
  unfold convA at hr
  split at hr
  · rename_i s d hs hd
    obtain ⟨is, his, hus, -⟩ := tiOf_ok hs
    obtain ⟨id, hid, hud, -⟩ := tiOf_ok hd
    split at hr
    · rename_i e b hdu
      cases hx.string_inv
      rw [hdu] at hud
      split at hr
      · rename_i te hte
        obtain ⟨ie, hie, hue, -⟩ := tiOf_ok hte
        split at hr
        · rename_i heu
          rw [heu] at hue
          split at hr
          · rename_i i h2 hn
            simp only [Option.some.injEq, Prod.mk.injEq] at hr
            obtain ⟨rfl, rfl⟩ := hr
            let cap := (Question.appendCap b.size 0 e).cut (w.tape w.drawn (.appendCap b.size 0 e))
            have hcap : b.size ≤ cap := appendCap_ge
            obtain ⟨ψ, h1, h2', h3⟩ := H.drew.newRow hn (ofBytes_rel b.data.toList) (rest := List.replicate (cap - b.size) (.int .u8 0)) e (cap - b.size) (by simp)
            have hblk : (w.drew.alloc (.cells ⟨ofBytes b.data.toList ++ List.replicate (cap - b.size) (.int .u8 0)⟩ e)).heap[w.drew.heap.size]? = some (.cells ⟨ofBytes b.data.toList ++ List.replicate (cap - b.size) (.int .u8 0)⟩ e (0, 0)) := Go.heap_alloc_new w.drew _
            have h4 := h3.mark hblk (H.newZ)
            refine ⟨ψ, .slice (some ⟨w.heap.size, 0, none⟩) b.size cap, _, ?_, h1, ?_, h4⟩
            · have hcells : (b.data.map (fun b => Value.int .u8 (b.toNat : Int)) ++ Array.replicate (cap - b.size) (Value.int .u8 0)) = (⟨ofBytes b.data.toList ++ List.replicate (cap - b.size) (.int .u8 0)⟩ : Array Value) := by
                apply Array.ext'
                simp [ofBytes]
              simp only [convert, Sem.run_bind, run_underlying hus, run_underlying hud, Result.andThen_ok, run_underlying hue, Conv.stringToBytes, run_choose, Question.forced, Bool.false_eq_true, if_false, newRow, run_newObj, Sem.run_pure]
              rw [show (Question.appendCap b.size 0 e).cut (w.tape w.drawn (.appendCap b.size 0 e)) = cap from rfl, hcells]
              rw [run_markStringish _ w.heap.size 0]
              have hsh : (w.drew.alloc (.cells ⟨ofBytes b.data.toList ++ List.replicate (cap - b.size) (.int .u8 0)⟩ e)).shape? w.heap.size = some (e, (⟨ofBytes b.data.toList ++ List.replicate (cap - b.size) (Value.int .u8 0)⟩ : Array Value).size) := by
                have : w.heap.size = w.drew.heap.size := rfl
                rw [this]
                simp only [World.shape?, hblk]
              show (Result.ok () (match (w.drew.alloc (.cells ⟨ofBytes b.data.toList ++ List.replicate (cap - b.size) (.int .u8 0)⟩ e)).shape? w.heap.size with
                | some (_, n) => (w.drew.alloc (.cells ⟨ofBytes b.data.toList ++ List.replicate (cap - b.size) (.int .u8 0)⟩ e)).freeze ⟨w.heap.size, n, none⟩ 1
                | none => w.drew.alloc (.cells ⟨ofBytes b.data.toList ++ List.replicate (cap - b.size) (.int .u8 0)⟩ e))).andThen _ = _
              rw [hsh]
              rfl
            · have := VRel.slice (φ := ψ) (len := b.size) (cap := b.size) h2' (Nat.zero_le 0) (.inl (by rfl))
              rw [show b.size + (cap - b.size) = cap from by omega] at this
              exact this
          · cases hr
        · cases hr
      · cases hr
    · cases hr
  · cases hr

end Go.Abs
end

section
/- make, copy, append, the maps' operations: held against the model's. -/
open Go.RowKit
namespace Go.Abs
variable {B0 : Zn} {w0 : World} {φ : Map} {h h' : AW} {w : World} {P : Program}

theorem run_checkKeyN {kt : TypeId} {d : TypeDesc} (hd : P.underlying kt = some d) (hk : keyKind d = true) (e : Bool) (n : Nat) (hn : n ≠ 0) (k : Value) : (Instr.checkKey e n kt k).run P w = .ok () w := by
  obtain ⟨m, rfl⟩ := Nat.exists_eq_succ_of_ne_zero hn
  exact run_checkKey' hd hk e m k

theorem makeSlice_ok (H : HRel B0 w0 φ h w) {t : TypeId} {l l' c c' v : Value} (hl : VRel φ l l') (hc : VRel φ c c') (hr : makeSliceV P h t l c = some (v, h')) : Out B0 w0 φ (Instr.makeSlice t l' c') P w v h' := by
  unfold makeSliceV at hr
  split at hr
  · rename_i ti kl nl kc nc ht
    obtain ⟨it, hit, hut, -⟩ := tiOf_ok ht
    cases hl.int_inv; cases hc.int_inv
    split at hr
    · rename_i elem hd
      rw [hd] at hut
      split at hr
      · rename_i te hte
        obtain ⟨ie, hie, hue, _, hsz, hby, hz⟩ := tiOf_ok hte
        split at hr
        · rename_i z hzz hb
          obtain ⟨hz1, hz2, hz3⟩ := hz z hzz
          simp only [Bool.and_eq_true] at hb
          have b1 := ble_true hb.1.1
          have b2 := ble_true hb.1.2
          have b3 := ble_true hb.2
          split at hr
          · split at hr
            · rename_i i h2 hn
              simp only [Option.some.injEq, Prod.mk.injEq] at hr
              obtain ⟨rfl, rfl⟩ := hr
              obtain ⟨ψ, h1, h2', h3⟩ := H.newVar hn (rep_flat hz2 nc) elem
              refine ⟨ψ, .slice (some ⟨w.heap.size, 0, none⟩) nl (nc + 0), _, ?_, h1, VRel.slice h2' (Nat.zero_le _) (.inl rfl), h3.tag (h3.dom _ _ h2') (fun b σ κ e => by rw [h2'] at e; cases e; exact ⟨_, _, heap_alloc_new _ _⟩)⟩
              have w1 := wrap_nat (n := nl) (by omega)
              have w2 := wrap_nat (n := nc) b3
              have hmul : (ie.bytes : Int) * (nc : Int) ≤ 281474976710656 := by
                have : ie.bytes * nc ≤ 140737488355328 := by rw [Nat.mul_comm, ← hby]; exact b2
                have h2 : ((ie.bytes * nc : Nat) : Int) ≤ 140737488355328 := by omega
                rw [Int.natCast_mul] at h2
                omega
              have hmul' : (ie.bytes : Int) * (nc : Int) ≤ 2 ^ 48 := by
                rw [show (2 : Int) ^ 48 = 281474976710656 by decide]; exact hmul
              have tl : ¬ ((nc : Int) < 0) := by omega
              have l0 : ¬ ((nl : Int) < 0) := by omega
              have l1 : ¬ ((nl : Int) > (nc : Int)) := by omega
              have hng : ¬ ((ie.bytes : Int) * (nc : Int) > 2 ^ 48) := by omega
              have cond : (((decide ((nc : Int) < 0) || decide ((ie.bytes : Int) * (nc : Int) > 2 ^ 48)) || decide ((nl : Int) < 0)) || decide ((nl : Int) > (nc : Int))) = false := by
                rw [decide_eq_false tl, decide_eq_false hng, decide_eq_false l0, decide_eq_false l1]; rfl
              have hrep : nc * te.size = 0 → rep z.cells.toList nc = [] := fun h0 => List.eq_nil_of_length_eq_zero (by rw [rep_length]; simp [hz3, h0])
              simp only [Instr.makeSlice, asInt, asIntOf, Sem.run_bind, run_underlying hut, Result.andThen_ok, Sem.run_pure, run_typeInfo' hie, Int.ofNat_eq_natCast, w1, w2]
              rw [cond]
              simp only [Bool.false_eq_true, if_false, Sem.run_bind, run_askRoom, Result.andThen_ok, Int.toNat_natCast, run_sizeOf' hie, ← hsz]
              by_cases h0 : nc * te.size = 0
              · have e0 : (Array.map (fun x => (#[] : Array Value)[x % (#[] : Array Value).size]!) (Array.range 0)) = ⟨[]⟩ := by simp
                rw [if_pos h0, hrep h0, h0]
                simp only [Sem.run_bind, Sem.run_pure, Result.andThen_ok, e0, newRow, run_newObj]
                rfl
              · rw [if_neg h0]
                have e := rep_range z.cells nc
                rw [hz3] at e
                simp only [Sem.run_bind, run_zeroValue' hie hz1, Result.andThen_ok, Sem.run_pure, hz3, e, newRow, run_newObj]
                simp
            · cases hr
          · cases hr
        · cases hr
      · cases hr
    · cases hr
  · cases hr

theorem sliceA_ok (H : HRel B0 w0 φ h w) {t : TypeId} {x x' m m' v : Value} {lo lo' hi hi' : Option Value} (hx : VRel φ x x') (hlo : ORelV φ lo lo') (hhi : ORelV φ hi hi') (hm : VRel φ m m') (hr : sliceA P h t x lo hi m = some (v, h')) :
    Out B0 w0 φ (Instr.sliceAt t x' lo' hi' (some m')) P w v h' := by
  unfold sliceA at hr
  split at hr
  · rename_i ti ht
    obtain ⟨it, hit, hut, -⟩ := tiOf_ok ht
    split at hr
    · rename_i elem a len cap hi1 hd
      rw [hd] at hut
      cases hi' with
      | none => exact hhi.elim
      | some hi2 =>
      split at hr
      · rename_i mm hmm
        split at hr
        · rename_i u hu
          split at hr
          · rename_i l hl
            split at hr
            · rename_i hml
              have hml := beq_true hml
              subst hml
              obtain ⟨km, rfl, hmle⟩ := bnd_ok hm hmm
              obtain ⟨ku, rfl, hule⟩ := bnd_ok hhi hu
              have hlu : mm ≤ u := by
                cases lo with
                | none => simp only [bndO, Option.some.injEq] at hl; omega
                | some y => cases lo' with
                  | none => exact hlo.elim
                  | some y' => exact (bnd_ok hlo hl).choose_spec.2
              have hu' : u = mm := by omega
              subst hu'
              have bounds : ∀ cap', cap ≤ cap' → (Instr.sliceBounds true len cap' lo' (some (.int ku (u : Int))) (some (.int km (u : Int)))).run P w = .ok (u, u, u) w := by
                intro cap' hc
                have r1 := fun c => run_sliceBound (P := P) w km (u : Int) cap' c (by omega) (by omega)
                have r2 := fun c => run_sliceBound (P := P) w ku (u : Int) u c (by omega) (by omega)
                cases lo with
                | none =>
                  simp only [bndO, Option.some.injEq] at hl
                  cases lo' with
                  | some _ => exact hlo.elim
                  | none =>
                    rw [show (u, u, u) = (0, u, u) from by rw [← hl]]
                    simp [Instr.sliceBounds, r1, r2]
                | some y => cases lo' with
                  | none => exact hlo.elim
                  | some y' =>
                    obtain ⟨ky, rfl, _⟩ := bnd_ok hlo hl
                    have r3 := fun c => run_sliceBound (P := P) w ky (u : Int) u c (by omega) (by omega)
                    simp [Instr.sliceBounds, r1, r2, r3]
              split at hr
              · cases hr
              rename_i te hte
              obtain ⟨ie, hie', -⟩ := tiOf_ok hte
              split at hr
              · rename_i bi off
                simp only [Option.some.injEq, Prod.mk.injEq] at hr
                obtain ⟨rfl, rfl⟩ := hr
                obtain ⟨_, b, σ, κ, a', hp, hσ, ho, rfl⟩ := hx.slice_inv
                obtain ⟨ψ, h1, h2, h3⟩ := H.newNone b
                refine ⟨ψ, .slice (some a') 0 (0 + 0), w, ?_, h1, VRel.slice h2 (Nat.zero_le _) (.inr ⟨rfl, rfl⟩), h3⟩
                simp only [Instr.sliceAt, Instr.slice, Sem.run_bind, run_underlying hut, Result.andThen_ok, bounds (cap + κ) (by omega), run_sizeOf' hie', Sem.run_pure, if_true, Nat.sub_self]
              · cases hr
              · simp only [Option.some.injEq, Prod.mk.injEq] at hr
                obtain ⟨rfl, rfl⟩ := hr
                cases hx.sliceN_inv
                refine ⟨φ, .slice none 0 0, w, ?_, φ.le_refl, .sliceN _ _, H⟩
                simp only [Instr.sliceAt, Instr.slice, Sem.run_bind, run_underlying hut, Result.andThen_ok, bounds cap (Nat.le_refl _), run_sizeOf' hie', Sem.run_pure, if_true, Nat.sub_self]
            · cases hr
          · cases hr
        · cases hr
      · cases hr
    · cases hr
  · cases hr

theorem upd_ok {d : TypeDesc} {k k' v v' : Value} (hk : VRel φ k k') (hv : VRel φ v v') : ∀ {es r : List (Value × Value)} {es' : List MapEntry} (i : Nat), L2 (fun (p : Value × Value) (e : MapEntry) => VRel φ p.1 e.key ∧ VRel φ p.2 e.val) es es' → upd d k v es = some r →
    (Instr.findNow d k' es' i = some none ∧ r = es ++ [(k, v)]) ∨
    ∃ j e, Instr.findNow d k' es' i = some (some (i + j, e.val)) ∧ es'[j]? = some e ∧ Instr.sameNow d k' e.key = some true ∧ r = es.set j (k, v)
  | [], r, es', i, hl, hr => by
    cases hl.nil_left
    simp only [upd, Option.some.injEq] at hr; subst hr
    exact .inl ⟨rfl, rfl⟩
  | (q, x) :: es, r, es', i, hl, hr => by
    obtain ⟨e, t, rfl, ⟨h1, h2⟩, h3⟩ := hl.cons_left
    simp only [upd] at hr
    split at hr
    · rename_i hs
      simp only [Option.some.injEq] at hr; subst hr
      have hs' := sameNow_rel hk h1 hs
      exact .inr ⟨0, e, by simp [Instr.findNow, hs'], rfl, hs', rfl⟩
    · rename_i hs
      have hs' := sameNow_rel hk h1 hs
      split at hr
      · rename_i r2 hr2
        simp only [Option.some.injEq] at hr; subst hr
        rcases upd_ok hk hv (i + 1) h3 hr2 with ⟨a, rfl⟩ | ⟨j, e2, a, b, c, rfl⟩
        · exact .inl ⟨by simp [Instr.findNow, hs', a], rfl⟩
        · exact .inr ⟨j + 1, e2, by simp [Instr.findNow, hs', a]; omega, by simpa using b, c, rfl⟩
      · cases hr
    · cases hr

theorem sameBits_of {d : TypeDesc} {a b : Value} (h : Instr.sameNow d a b = some true) (n : Nat) : Instr.sameBits n b a = true := by
  unfold Instr.sameNow at h
  split at h
  · split at h
    · rename_i hk; subst hk
      simp only [Option.some.injEq, beq_iff_eq] at h; subst h
      cases n <;> simp [Instr.sameBits]
    · cases h
  · simp only [Option.some.injEq] at h
    rw [beq_toListBytes, beq_iff_eq] at h
    cases n <;> (simp only [Instr.sameBits]; rw [beq_toListBytes, beq_iff_eq]; exact h.symm)
  · simp only [Option.some.injEq, beq_iff_eq] at h; subst h
    cases n <;> simp [Instr.sameBits]
  · cases h

theorem mapUpd_ok (H : HRel B0 w0 φ h w) {t : TypeId} {m m' k k' v v' : Value} (hm : VRel φ m m') (hk : VRel φ k k') (hv : VRel φ v v') (hr : mapUpdV P h t m k v = some h') :
    ∃ w', (Instr.mapUpdate t m' k' v').run P w = .ok () w' ∧ HRel B0 w0 φ h' w' := by
  unfold mapUpdV at hr
  split at hr
  · rename_i ti r ht
    obtain ⟨it, hit, hut, -⟩ := tiOf_ok ht
    split at hr
    · rename_i kt et hd
      rw [hd] at hut
      split at hr
      · rename_i tk htk
        obtain ⟨ik, hik, huk, -⟩ := tiOf_ok htk
        split at hr
        · rename_i es hkk ho
          split at hr
          · rename_i es2 hup
            simp only [Option.some.injEq] at hr; subst hr
            obtain ⟨b, σ, κ, hp, rfl⟩ := hm.map_inv
            obtain ⟨ents, clock, hw, hl, hset⟩ := H.setMap ho hp
            have hck := run_checkKeyN (w := w) huk hkk false 10000 (by omega) k'
            rcases upd_ok hk hv 0 hl hup with ⟨hf, rfl⟩ | ⟨j, e, hf, he, hs, rfl⟩
            · refine ⟨_, ?_, hset _ (ents.push { key := k', val := v', born := clock }) (clock + 1) (by
                simp only [Array.toList_push]
                exact hl.append (L2.cons ⟨hk, hv⟩ L2.nil))⟩
              simp only [Instr.mapUpdate, Sem.run_bind, run_underlying hut, Result.andThen_ok, run_getObj' hw]
              rw [hck]
              simp only [Result.andThen_ok, run_findKey' huk hf, run_setObj' _ hw]
            · have he' : ents[j]? = some e := by simpa using he
              refine ⟨_, ?_, hset _ (ents.modify j fun e => { e with key := k', val := v' }) clock (by
                have : (ents.modify j fun e => { e with key := k', val := v' }).toList = ents.toList.set j { e with key := k', val := v' } := by
                  apply List.ext_getElem?
                  intro i
                  rw [Array.getElem?_toList, Array.getElem?_modify, List.getElem?_set]
                  by_cases hij : j = i
                  · subst hij
                    rw [if_pos rfl, he', if_pos rfl]
                    have : j < ents.toList.length := (List.getElem?_eq_some_iff.1 he).1
                    rw [if_pos this]; rfl
                  · rw [if_neg hij, if_neg hij, Array.getElem?_toList]
                rw [this]
                exact hl.set j ⟨hk, hv⟩)⟩
              simp only [Instr.mapUpdate, Sem.run_bind, run_underlying hut, Result.andThen_ok, run_getObj' hw]
              rw [hck]
              have hb := sameBits_of hs 10000
              simp only [Nat.zero_add] at hf
              simp only [Result.andThen_ok, run_findKey' huk hf, he', Option.map_some, Option.getD_some, Instr.keyThatStays]
              rw [hb]
              simp only [if_true, Sem.run_bind, Sem.run_pure, Result.andThen_ok, run_setObj' _ hw]
          · cases hr
        · cases hr
      · cases hr
    · cases hr
  · cases hr

theorem del_ok {d : TypeDesc} {k k' : Value} (hk : VRel φ k k') : ∀ {es r : List (Value × Value)} {es' : List MapEntry} (i : Nat), L2 (fun (p : Value × Value) (e : MapEntry) => VRel φ p.1 e.key ∧ VRel φ p.2 e.val) es es' → del d k es = some r →
    (Instr.findNow d k' es' i = some none ∧ r = es) ∨ ∃ j v, Instr.findNow d k' es' i = some (some (i + j, v)) ∧ j < es'.length ∧ r = es.eraseIdx j
  | [], r, es', i, hl, hr => by
    cases hl.nil_left
    simp only [del, Option.some.injEq] at hr; subst hr
    exact .inl ⟨rfl, rfl⟩
  | (q, x) :: es, r, es', i, hl, hr => by
    obtain ⟨e, t, rfl, ⟨h1, h2⟩, h3⟩ := hl.cons_left
    simp only [del] at hr
    split at hr
    · rename_i hs
      simp only [Option.some.injEq] at hr; subst hr
      have hs' := sameNow_rel hk h1 hs
      exact .inr ⟨0, e.val, by simp [Instr.findNow, hs'], by simp, rfl⟩
    · rename_i hs
      have hs' := sameNow_rel hk h1 hs
      split at hr
      · rename_i r2 hr2
        simp only [Option.some.injEq] at hr; subst hr
        rcases del_ok hk (i + 1) h3 hr2 with ⟨a, rfl⟩ | ⟨j, v, a, b, rfl⟩
        · exact .inl ⟨by simp [Instr.findNow, hs', a], rfl⟩
        · exact .inr ⟨j + 1, v, by simp [Instr.findNow, hs', a]; omega, by simpa using b, rfl⟩
      · cases hr
    · cases hr

theorem L2.eraseIdx {α β : Type} {R : α → β → Prop} : ∀ {l : List α} {l' : List β} (j : Nat), L2 R l l' → L2 R (l.eraseIdx j) (l'.eraseIdx j)
  | [], l', j, h => by cases h.nil_left; exact L2.nil
  | a :: l, l', j, h => by
    obtain ⟨b, t, rfl, h1, h2⟩ := h.cons_left
    cases j with
    | zero => exact h2
    | succ j => exact L2.cons h1 (L2.eraseIdx j h2)

theorem delete_ok (H : HRel B0 w0 φ h w) {ts : Array TypeId} {ty : TypeId} {args args' : List Value} {v : Value} (ha : LRel φ args args') (hr : deleteB P h ts args = some (v, h')) : Out B0 w0 φ (Builtin.delete_ ts ty ⟨args'⟩) P w v h' := by
  unfold deleteB at hr
  split at hr
  · rename_i t rest m k hts
    obtain ⟨m', a2, rfl, hm, ha2⟩ := ha.cons_left
    obtain ⟨k', a3, rfl, hk, ha3⟩ := ha2.cons_left
    cases ha3.nil_left
    have hts0 : ts[0]? = some t := by rw [← Array.getElem?_toList, hts]; rfl
    split at hr
    · rename_i ti ht
      obtain ⟨it, hit, hut, -⟩ := tiOf_ok ht
      split at hr
      · rename_i kt et r hd
        rw [hd] at hut
        split at hr
        · rename_i tk htk
          obtain ⟨ik, hik, huk, -⟩ := tiOf_ok htk
          split at hr
          · rename_i es hkk ho
            split at hr
            · rename_i es2 hup
              simp only [Option.some.injEq, Prod.mk.injEq] at hr
              obtain ⟨rfl, rfl⟩ := hr
              obtain ⟨b, σ, κ, hp, rfl⟩ := hm.map_inv
              obtain ⟨ents, clock, hw, hl, hset⟩ := H.setMap ho hp
              have hck := run_checkKeyN (w := w) huk hkk ents.isEmpty 10000 (by omega) k'
              rcases del_ok hk 0 hl hup with ⟨hf, rfl⟩ | ⟨j, v, hf, hj, rfl⟩
              · refine ⟨φ, _, _, ?_, φ.le_refl, VRel.undef, hset _ ents clock hl⟩
                simp only [Builtin.delete_, hts0, List.getElem?_toArray, List.getElem?_cons_zero, List.getElem?_cons_succ, Sem.run_bind, run_underlying hut, Result.andThen_ok, run_getObj' hw]
                rw [hck]
                simp only [Result.andThen_ok, run_findKey' huk hf, Sem.run_bind, run_setObj' _ hw, Sem.run_pure]
                rfl
              · refine ⟨φ, _, _, ?_, φ.le_refl, VRel.undef, hset _ (ents.eraseIdxIfInBounds j) clock (by
                  rw [Array.toList_eraseIdxIfInBounds]; exact L2.eraseIdx j hl)⟩
                simp only [Nat.zero_add] at hf
                simp only [Builtin.delete_, hts0, List.getElem?_toArray, List.getElem?_cons_zero, List.getElem?_cons_succ, Sem.run_bind, run_underlying hut, Result.andThen_ok, run_getObj' hw]
                rw [hck]
                simp only [Result.andThen_ok, run_findKey' huk hf, Sem.run_bind, run_setObj' _ hw, Sem.run_pure]
                rfl
            · cases hr
          · cases hr
        · cases hr
      · cases hr
    · cases hr
  · cases hr

end Go.Abs
end

section
/- copy, clear, append: held against the model's. -/
open Go.RowKit
namespace Go.Abs
variable {B0 : Zn} {w0 : World} {φ : Map} {h h' : AW} {w : World} {P : Program}

theorem stores_ok (H : HRel B0 w0 φ h w) {i off len cap : Nat} {x' : Value} {l l' : List Value} (hx : VRel φ (.slice (some ⟨i, off, none⟩) len cap) x') (hw : h.wrL i off l = some h') (hl : LRel φ l l') (h0 : len = 0 → l = []) :
    ∃ a' cap', x' = .slice (some a') len cap' ∧ ∃ w', (storeCells a' l' 0).run P w = .ok () w' ∧ HRel B0 w0 φ h' w' := by
  obtain ⟨_, b, σ, κ, a', hp, hσ, ho, rfl⟩ := hx.slice_inv
  refine ⟨a', cap + κ, rfl, ?_⟩
  rcases ho with rfl | ⟨hz, _⟩
  · exact HRel.wrL (P := P) (h := h) (fun _ => rfl) hp (k := 0) H hw hl (off - σ) (fun hne => ⟨by omega, hσ⟩)
  · have := h0 hz; subst this
    simp only [AW.wrL, Option.some.injEq] at hw
    subst hw
    rw [hl.nil_left]
    exact ⟨w, by simp [storeCells], H⟩

theorem clear_ok (H : HRel B0 w0 φ h w) {ts : Array TypeId} {ty : TypeId} {args args' : List Value} {v : Value} (ha : LRel φ args args') (hr : clearB P h ts args = some (v, h')) : Out B0 w0 φ (Builtin.clear_ ts ty ⟨args'⟩) P w v h' := by
  unfold clearB at hr
  split at hr
  · rename_i t x hts
    obtain ⟨x', t', rfl, hx, ht'⟩ := ha.cons_left
    cases ht'.nil_left
    have hts0 : ts[0]? = some t := by rw [← Array.getElem?_toList, hts]; rfl
    split at hr
    · rename_i ti ht
      obtain ⟨it, hit, hut, -⟩ := tiOf_ok ht
      split at hr
      · simp only [Option.some.injEq, Prod.mk.injEq] at hr
        obtain ⟨rfl, rfl⟩ := hr
        cases hx.mapN_inv
        exact ⟨φ, .tuple #[], w, by simp [Builtin.clear_, hts0, run_underlying hut], φ.le_refl, VRel.undef, H⟩
      · simp only [Option.some.injEq, Prod.mk.injEq] at hr
        obtain ⟨rfl, rfl⟩ := hr
        cases hx.sliceN_inv
        exact ⟨φ, .tuple #[], w, by simp [Builtin.clear_, hts0, run_underlying hut], φ.le_refl, VRel.undef, H⟩
      · split at hr
        · rename_i es ho
          simp only [Option.some.injEq, Prod.mk.injEq] at hr
          obtain ⟨rfl, rfl⟩ := hr
          obtain ⟨b, σ, κ, hp, rfl⟩ := hx.map_inv
          obtain ⟨ents, clock, hw, hl, hset⟩ := H.setMap ho hp
          exact ⟨φ, .tuple #[], _, by simp [Builtin.clear_, hts0, run_underlying hut, run_getObj' hw, run_setObj' _ hw], φ.le_refl, VRel.undef, hset [] #[] clock L2.nil⟩
        · cases hr
      · rename_i i off n c
        split at hr
        · rename_i elem hd
          rw [hd] at hut
          split at hr
          · rename_i te hte
            obtain ⟨ie, hie, hue, _, hsz, hby, hz⟩ := tiOf_ok hte
            split at hr
            · rename_i z hzz
              obtain ⟨hz1, hz2, hz3⟩ := hz z hzz
              split at hr
              · rename_i h2 hw
                simp only [Option.some.injEq, Prod.mk.injEq] at hr
                obtain ⟨rfl, rfl⟩ := hr
                obtain ⟨a', cap', rfl, w', hrun, H'⟩ := stores_ok (P := P) H hx hw (rep_flat hz2 n) (fun h0 => by subst h0; rfl)
                refine ⟨φ, .tuple #[], w', ?_, φ.le_refl, VRel.undef, H'⟩
                cases n with
                | zero =>
                  simp only [rep, storeCells, Sem.run_pure] at hrun
                  cases hrun
                  simp [Builtin.clear_, hts0, run_underlying hut]
                | succ n =>
                  have hzc : (Builtin.zeroCells z.cells (n + 1)).toList = rep z.cells.toList (n + 1) := by
                    unfold Builtin.zeroCells
                    rw [rep_range]
                  simp only [Builtin.clear_, hts0, List.getElem?_toArray, List.getElem?_cons_zero, Sem.run_bind, run_underlying hut, Result.andThen_ok, run_zeroValue' hie hz1, hzc, hrun, Sem.run_pure]
              · cases hr
            · cases hr
          · cases hr
        · cases hr
      · cases hr
    · cases hr
  · cases hr

theorem goInt_rel {n : Nat} : VRel φ (goInt n) (goInt n) := .int _ _

theorem copy_ok (H : HRel B0 w0 φ h w) {ts : Array TypeId} {ty : TypeId} {args args' : List Value} {v : Value} (ha : LRel φ args args') (hr : copyB P h ts args = some (v, h')) : Out B0 w0 φ (Builtin.copy_ ts ty ⟨args'⟩) P w v h' := by
  unfold copyB at hr
  split at hr
  · rename_i td rest base dlen dcap src hts
    obtain ⟨d', a2, rfl, hd, ha2⟩ := ha.cons_left
    obtain ⟨s', a3, rfl, hs, ha3⟩ := ha2.cons_left
    cases ha3.nil_left
    have hts0 : ts[0]? = some td := by rw [← Array.getElem?_toList, hts]; rfl
    split at hr
    · rename_i ti ht
      obtain ⟨it, hit, hut, -⟩ := tiOf_ok ht
      split at hr
      · rename_i elem hdu
        rw [hdu] at hut
        split at hr
        · rename_i te hte
          obtain ⟨ie, hie, hue, _, hsz, -⟩ := tiOf_ok hte
          split at hr
          · rename_i n l hsrc
            -- what is read
            have read : ∃ (m : Nat) (l' : List Value), (Builtin.lenOf s').run P w = .ok m w ∧ Nat.min m dlen = n ∧ (Builtin.firstCells ie.size n s').run P w = .ok ⟨l'⟩ w ∧ LRel φ l l' ∧ (n = 0 → l = []) := by
              split at hsrc
              · rename_i n2 c2
                cases hs.sliceN_inv
                split at hsrc
                · rename_i hb
                  have := beq_true hb; subst this
                  simp only [Option.some.injEq, Prod.mk.injEq] at hsrc
                  obtain ⟨rfl, rfl⟩ := hsrc
                  exact ⟨0, [], rfl, by simp, rfl, L2.nil, fun _ => rfl⟩
                · cases hsrc
              · rename_i i off n2 c2
                obtain ⟨_, b, σ, κ, a', hp, hσ, ho, rfl⟩ := hs.slice_inv
                split at hsrc
                · rename_i l2 hl2
                  simp only [Option.some.injEq, Prod.mk.injEq] at hsrc
                  obtain ⟨rfl, rfl⟩ := hsrc
                  obtain ⟨l', hlr, hlen, hrun⟩ := loadCells_ok (P := P) H hp hl2
                  refine ⟨n2, l', rfl, rfl, ?_, hlr, fun h0 => ?_⟩
                  · simp only [Builtin.firstCells]
                    rcases ho with rfl | ⟨rfl, _⟩
                    · rw [← hsz]; exact hrun
                    · have h0 : Nat.min 0 dlen = 0 := by simp
                      rw [h0] at hlen ⊢
                      have : l' = [] := List.eq_nil_of_length_eq_zero (by simpa using hlen)
                      subst this
                      simp [loadCells, loadCellsFrom]
                  · have : l'.length = 0 := by rw [hlen, h0]; simp
                    exact List.eq_nil_of_length_eq_zero (by rw [hlr.1]; exact this)
                · cases hsrc
              · rename_i b
                cases hs.string_inv
                simp only [Option.some.injEq, Prod.mk.injEq] at hsrc
                obtain ⟨rfl, rfl⟩ := hsrc
                refine ⟨b.size, _, rfl, rfl, ?_, ofBytes_rel _, fun h0 => ?_⟩
                · simp only [Builtin.firstCells, Sem.run_pure]
                  congr 1
                  apply Array.ext'
                  simp [ofBytes, ByteArray.data_extract]
                · rw [h0]; rfl
              · cases hsrc
            obtain ⟨m, l', hlen, hmin, hfirst, hll, hz⟩ := read
            split at hr
            · simp only [Option.some.injEq, Prod.mk.injEq] at hr
              obtain ⟨rfl, rfl⟩ := hr
              cases hd.sliceN_inv
              refine ⟨φ, _, w, ?_, φ.le_refl, goInt_rel, H⟩
              simp only [Builtin.copy_, hts0, List.getElem?_toArray, List.getElem?_cons_zero, List.getElem?_cons_succ, Sem.run_bind, run_underlying hut, Result.andThen_ok, hlen, hmin, run_sizeOf' hie, hfirst, Sem.run_pure]
            · rename_i i off
              split at hr
              · rename_i h2 hw
                simp only [Option.some.injEq, Prod.mk.injEq] at hr
                obtain ⟨rfl, rfl⟩ := hr
                obtain ⟨a', cap', rfl, w', hrun, H'⟩ := stores_ok (P := P) H hd hw hll (fun h0 => hz (by rw [← hmin, h0]; simp))
                refine ⟨φ, _, w', ?_, φ.le_refl, goInt_rel, H'⟩
                simp only [Builtin.copy_, hts0, List.getElem?_toArray, List.getElem?_cons_zero, List.getElem?_cons_succ, Sem.run_bind, run_underlying hut, Result.andThen_ok, hlen, hmin, run_sizeOf' hie, hfirst, Sem.run_pure]
                rw [hrun]
                simp
              · cases hr
            · cases hr
          · cases hr
        · cases hr
      · cases hr
    · cases hr
  · cases hr

def appendTail (elem : TypeId) (size sLen sCap n : Nat) (s : Value) (base : Option Addr) (x : Value) (zeros : Bool) (appended : Sem (Array Value)) : Sem Value := do
  let need := sLen + n
  if need ≤ sCap then
    let new ← appended
    if let some a := base then storeCells (a.add (sLen * size)) new.toList
    pure (.slice base need sCap)
  else
    if (need : Int) > IntKind.i64.max ∧ (zeros ∨ (← typeInfo elem).bytes = 0) then runtimePanic (.error "growslice: len out of range")
    if Builtin.nextslicecap need sCap * (← typeInfo elem).bytes > 2 ^ 48 then (if zeros then runtimePanic (.error "growslice: len out of range") else do
      if !(← Builtin.mayShare size sLen n base x) then mark .noRoom
      unsupported (.resourceLimit "append: a slice or a string whose bytes no memory bears"))
    let newCap ← choose (.appendCap need sCap elem)
    askRoom (newCap * (← typeInfo elem).bytes)
    let old ← Builtin.firstCells size sLen s
    let new ← appended
    let rest := Builtin.zeroCells (← zeroValue elem).cells (newCap - need)
    pure (.slice (some (← newRow elem (old ++ new ++ rest))) need newCap)

/-- What an append does, whatever it appends. -/
theorem appendTail_ok (H : HRel B0 w0 φ h w) {elem : TypeId} {s s' x' v : Value} {n : Nat} {new new' : List Value} {zeros : Bool} {appended : Sem (Array Value)} {base' : Option Addr} {sLen sCap' : Nat}
    (hs : VRel φ s s') (hs' : s' = .slice base' sLen sCap') {ie : TypeInfo} (hie : P.info? elem = some ie)
    (happ : appended.run P w = .ok ⟨new'⟩ w ∧ appended.run P w.drew = .ok ⟨new'⟩ w.drew) (hl : LRel φ new new') (hr : appendV P h elem s n new = some (v, h')) :
    Out B0 w0 φ (appendTail elem ie.size sLen sCap' n s' base' x' zeros appended) P w v h' := by
  unfold appendV at hr
  split at hr
  · rename_i te base len cap hte
    obtain ⟨ie2, hie2, hue, _, hsz, hby, hz⟩ := tiOf_ok hte
    rw [hie] at hie2; cases hie2
    split at hr
    · cases hr
    rename_i hnl
    have hnl := beq_true hnl
    split at hr
    · rename_i hble
      have hble := ble_true hble
      split at hr
      · rename_i i off
        split at hr
        · rename_i h2 hw
          simp only [Option.some.injEq, Prod.mk.injEq] at hr
          obtain ⟨rfl, rfl⟩ := hr
          obtain ⟨_, b, σ, κ, a', hp, hσ, ho, he⟩ := hs.slice_inv
          rw [he] at hs'
          simp only [Value.slice.injEq] at hs'
          obtain ⟨e1, e2, e3⟩ := hs'
          subst e1; subst e2; subst e3
          obtain ⟨w', hrun, H'⟩ : ∃ w', (storeCells (a'.add (len * te.size)) new' 0).run P w = .ok () w' ∧ HRel B0 w0 φ h2 w' := by
            rcases ho with h | ⟨h1, h2⟩
            · subst h
              rw [Addr.add_lit]
              exact HRel.wrL (P := P) (h := h) (fun _ => rfl) hp (k := 0) H hw hl (off - σ + len * te.size) (fun hne => ⟨by omega, by omega⟩)
            · have hn0 : n = 0 := by omega
              rw [hn0] at hnl
              have : new = [] := List.eq_nil_of_length_eq_zero (by simpa using hnl)
              subst this
              simp only [AW.wrL, Option.some.injEq] at hw
              subst hw
              rw [hl.nil_left]
              exact ⟨w, by simp [storeCells], H⟩
          refine ⟨φ, .slice (some a') (len + n) (cap + κ), w', ?_, φ.le_refl, ?_, H'⟩
          · subst he
            simp only [appendTail]
            rw [if_pos (by omega)]
            simp only [Sem.run_bind, happ.1, Result.andThen_ok, ← hsz]
            rw [hrun]
            simp
          · refine VRel.slice hp hσ ?_
            rcases ho with h | ⟨h1, h2⟩
            · exact .inl h
            · exact .inr ⟨by omega, h2⟩
        · cases hr
      · cases hr
      · simp only [Option.some.injEq, Prod.mk.injEq] at hr
        obtain ⟨rfl, rfl⟩ := hr
        have he := hs.sliceN_inv
        rw [he] at hs'
        simp only [Value.slice.injEq] at hs'
        obtain ⟨e1, e2, e3⟩ := hs'
        subst e1; subst e2; subst e3
        refine ⟨φ, .slice none (len + n) cap, w, ?_, φ.le_refl, .sliceN _ _, H⟩
        simp only [appendTail]
        rw [if_pos (by omega)]
        simp only [Sem.run_bind, happ.1, Result.andThen_ok]
        simp
    · rename_i hnb
      have hgt : cap < len + n := by
        rcases Nat.lt_or_ge cap (len + n) with h | h
        · exact h
        · rw [Nat.ble_eq_true_of_le h] at hnb; cases hnb
      split at hr
      · cases hr
      rename_i hroom
      simp only [Bool.and_eq_true] at hroom
      obtain ⟨⟨⟨hroom1, hroom2⟩, hone⟩, hzs⟩ := hroom
      have hroom1 : (len + n) * te.bytes ≤ 70368744177664 := ble_true hroom1
      have hroom2 := ble_true hroom2
      obtain ⟨z, hzz⟩ := Option.isSome_iff_exists.1 hzs
      obtain ⟨hz1, hz2, hz3⟩ := hz z hzz
      -- a growth: whatever the new capacity
      have growRun : ∀ (old' : List Value), sLen = len → sCap' < len + n → (Builtin.firstCells ie.size len s').run P w.drew = .ok ⟨old'⟩ w.drew →
          (appendTail elem ie.size sLen sCap' n s' base' x' zeros appended).run P w =
            .ok (.slice (some ⟨w.heap.size, 0, none⟩) (len + n) (grownCap w (len + n) sCap' elem)) (w.drew.alloc (.cells ⟨old' ++ new' ++ rep z.cells.toList (grownCap w (len + n) sCap' elem - (len + n))⟩ elem)) := by
        intro old' e1 e2 hold
        subst e1
        have hfit : ¬ (Builtin.nextslicecap (sLen + n) sCap' * ie.bytes > 2 ^ 48) := by
          have := growslice_fits (bytes := ie.bytes) e2 (by rw [← hby]; omega)
          rw [show (2 : Nat) ^ 48 = 281474976710656 from by decide]; omega
        have hmax : ¬ (((sLen + n : Nat) : Int) > IntKind.i64.max ∧ (zeros = true ∨ ie.bytes = 0)) := by
          rw [show IntKind.i64.max = 9223372036854775807 from by decide]; omega
        unfold appendTail
        simp only []
        rw [if_neg (by omega)]
        simp only [Sem.run_bind, run_typeInfo' hie, Result.andThen_ok]
        rw [if_neg hmax]
        simp only [Sem.run_bind, run_typeInfo' hie, Result.andThen_ok]
        rw [if_neg hfit]
        simp only [Sem.run_bind, run_typeInfo' hie, Sem.run_pure, run_choose, Question.forced, Bool.false_eq_true, if_false, Result.andThen_ok, run_askRoom]
        rw [show ({ w with drawn := w.drawn + 1 } : World) = w.drew from rfl, hold]
        simp only [Result.andThen_ok, happ.2, run_zeroValue' hie hz1, newRow, run_newObj, Sem.run_bind, Sem.run_pure]
        have hcells : (⟨old'⟩ ++ ⟨new'⟩ ++ Builtin.zeroCells z.cells ((Question.appendCap (sLen + n) sCap' elem).cut (w.tape w.drawn (Question.appendCap (sLen + n) sCap' elem)) - (sLen + n)) : Array Value) =
            ⟨old' ++ new' ++ rep z.cells.toList (grownCap w (sLen + n) sCap' elem - (sLen + n))⟩ := by
          unfold Builtin.zeroCells
          rw [rep_range]
          apply Array.ext'
          simp [grownCap]
        rw [hcells]
        rfl
      have hcapge : ∀ c, len + n ≤ grownCap w (len + n) c elem := fun c => appendCap_ge
      split at hr
      · split at hr
        · rename_i j h2 hb0 hn
          simp only [Option.some.injEq, Prod.mk.injEq] at hr
          obtain ⟨rfl, rfl⟩ := hr
          have := beq_true hb0; subst this
          have he := hs.sliceN_inv
          rw [he] at hs'
          simp only [Value.slice.injEq] at hs'
          obtain ⟨e1, e2, e3⟩ := hs'
          subst e1; subst e2; subst e3
          have hrun := growRun [] rfl hgt (by rw [he]; simp [Builtin.firstCells])
          obtain ⟨ψ, h1, h2', h3⟩ := H.drew.newRow hn hl (rest := rep z.cells.toList (grownCap w (0 + n) cap elem - (0 + n))) elem (grownCap w (0 + n) cap elem - (0 + n)) (by rw [rep_length]; simp [hz3])
          refine ⟨ψ, _, _, hrun, h1, ?_, h3.tag (h3.dom _ _ h2') (fun b σ κ e => by rw [h2'] at e; cases e; exact ⟨_, _, heap_alloc_new _ _⟩)⟩
          have := VRel.slice (φ := ψ) (len := n) (cap := n) h2' (Nat.zero_le 0) (.inl (by rfl))
          have hg := hcapge cap
          simp only [Nat.zero_add] at hg this ⊢
          rw [show n + (grownCap w n cap elem - n) = grownCap w n cap elem from by omega] at this
          exact this
        · cases hr
      · rename_i i off
        obtain ⟨_, b, σ, κ, a', hp, hσ, ho, he⟩ := hs.slice_inv
        have hs2 := hs'
        rw [he] at hs2
        simp only [Value.slice.injEq] at hs2
        obtain ⟨e1, e2, e3⟩ := hs2
        subst e1; subst e2; subst e3
        split at hr
        · rename_i cs m ro hob
          obtain ⟨b2, σ2, κ2, hp2, hR⟩ := H.obj i _ hob
          rw [hp] at hp2; cases hp2
          obtain ⟨rfl, rfl, -⟩ := hR
          split at hr
          · rename_i old hold
            split at hr
            · rename_i j h2 hn
              simp only [Option.some.injEq, Prod.mk.injEq] at hr
              obtain ⟨rfl, rfl⟩ := hr
              obtain ⟨old', hor, holen, horun⟩ := loadCells_ok (P := P) H.drew hp hold
              have hfirst : (Builtin.firstCells ie.size len s').run P w.drew = .ok ⟨old'⟩ w.drew := by
                rw [he]
                simp only [Builtin.firstCells]
                rcases ho with h | ⟨h1, _⟩
                · rw [h, ← hsz]; exact horun
                · subst h1
                  have : old' = [] := List.eq_nil_of_length_eq_zero (by simpa using holen)
                  subst this
                  simp [loadCells, loadCellsFrom]
              have hrun := growRun old' rfl (by omega) hfirst
              obtain ⟨ψ, h1, h2', h3⟩ := H.drew.newRow hn (hor.append hl) (rest := rep z.cells.toList (grownCap w (len + n) (cap + 0) elem - (len + n))) elem (grownCap w (len + n) (cap + 0) elem - (len + n)) (by rw [rep_length]; simp [hz3])
              refine ⟨ψ, _, _, hrun, h1, ?_, h3.tag (h3.dom _ _ h2') (fun b σ κ e => by rw [h2'] at e; cases e; exact ⟨_, _, heap_alloc_new _ _⟩)⟩
              have := VRel.slice (φ := ψ) (len := len + n) (cap := len + n) h2' (Nat.zero_le 0) (.inl (by rfl))
              have hg := hcapge (cap + 0)
              rw [show len + n + (grownCap w (len + n) (cap + 0) elem - (len + n)) = grownCap w (len + n) (cap + 0) elem from by omega] at this
              exact this
            · cases hr
          · cases hr
        · rename_i f g lo hi sz cs hob
          split at hr
          · rename_i fm hfm
            split at hr
            · rename_i hc
              simp only [Bool.and_eq_true] at hc
              obtain ⟨⟨⟨⟨⟨c1, c2⟩, c3⟩, c4⟩, c5⟩, c6⟩ := hc
              have c1 := beq_true c1
              have c2 := ble_true c2
              have c3 := beq_true c3
              have c4 := ble_true c4
              have c5 := beq_true c5
              have c6 := ble_true c6
              subst c3
              simp only [Option.some.injEq, Prod.mk.injEq] at hr
              obtain ⟨rfl, rfl⟩ := hr
              obtain ⟨hin, hgrow⟩ := H.drew.grow (P := P) hob hp hfm c1 (off := off) (e := off + len * te.size) c2 (by omega) c4 c6 hl hone rfl
              obtain ⟨hin', -⟩ := H.grow (P := P) hob hp hfm c1 (off := off) (e := off + len * te.size) c2 (by omega) c4 c6 hl hone rfl
              obtain ⟨b3, σ3, κ3, hp3, hR⟩ := H.obj i _ hob
              rw [hp] at hp3; cases hp3
              obtain ⟨q1, q2, q3, q4, q5, q6⟩ := hR fm hfm c1
              by_cases hfit : len + n ≤ cap + κ
              · -- room in the array: written in place
                have hcapsz : cap * te.size + κ * te.size = (cap + κ) * te.size := by rw [Nat.add_mul]
                have hnsz : len * te.size + n * te.size = (len + n) * te.size := by rw [Nat.add_mul]
                have hsub : (cap + κ) * te.size = (len + n) * te.size + (cap + κ - (len + n)) * te.size := by rw [← Nat.add_mul]; congr 1; omega
                obtain ⟨w', ψ, hrun, hle, hpn, H'⟩ := hin' (cap + κ - (len + n)) (by omega)
                have hoff : a' = ⟨b, off - σ, none⟩ := by
                  rcases ho with h | ⟨h1, h2⟩
                  · exact h
                  · omega
                refine ⟨ψ, .slice (some a') (len + n) (cap + κ), w', ?_, hle, ?_, HRel.tagAs H' (Nat.lt_succ_self _) hpn (fun e => (H'.ty i elem e).2 _ _ _ (hle _ _ hp))⟩
                · rw [he]
                  simp only [appendTail]
                  rw [if_pos hfit]
                  simp only [Sem.run_bind, happ.1, Result.andThen_ok, Addr.add_lit, ← hsz]
                  rw [hoff, Addr.add_lit, show off - σ + len * te.size = off + len * te.size - σ from by omega]
                  rw [hrun]
                  simp
                · have := VRel.slice (φ := ψ) (i := h.next) (off := off) (len := len + n) (cap := len + n) hpn hσ (.inl rfl)
                  rw [show len + n + (cap + κ - (len + n)) = cap + κ from by omega] at this
                  rw [hoff]; exact this
              · -- a new array
                have hexists : ∃ old' : List Value, old'.length = len * te.size ∧ ∀ j v', old'[j]? = some v' → w.cell? ⟨b, off - σ + j, none⟩ = some v' := by
                  refine ⟨(List.range (len * te.size)).map fun j => (w.cell? ⟨b, off - σ + j, none⟩).getD undef, by simp, fun j v' hj => ?_⟩
                  rw [List.getElem?_map] at hj
                  cases hrg : (List.range (len * te.size))[j]? with
                  | none => simp [hrg] at hj
                  | some k =>
                    simp only [hrg, Option.map_some, Option.some.injEq] at hj
                    have hlt : j < len * te.size := by have := (List.getElem?_eq_some_iff.1 hrg).1; simpa using this
                    have hk : k = j := by
                      rw [List.getElem?_range hlt] at hrg; exact (Option.some.inj hrg).symm
                    subst hk
                    obtain ⟨u, hu⟩ := q5 (off + k) (by omega) (by have : 0 ≤ κ * te.size := Nat.zero_le _; omega)
                    rw [show off - σ + k = off + k - σ from by omega, hu] at hj ⊢
                    simpa using hj
                obtain ⟨old', holen, hocell⟩ := hexists
                have hfirst : (Builtin.firstCells ie.size len s').run P w.drew = .ok ⟨old'⟩ w.drew := by
                  rw [he]
                  simp only [Builtin.firstCells, ← hsz]
                  rcases ho with h | ⟨h1, _⟩
                  · rw [h, ← holen]
                    exact run_loadCells_list (P := P) w.drew ⟨b, off - σ, none⟩ old' (fun j v' hv => by rw [Addr.add_lit]; exact hocell j v' hv)
                  · subst h1
                    have : old' = [] := List.eq_nil_of_length_eq_zero (by simpa using holen)
                    subst this
                    simp [loadCells, loadCellsFrom]
                have hrun := growRun old' rfl (by omega) hfirst
                obtain ⟨ψ, hle, hpn, H'⟩ := hgrow (grownCap w (len + n) (cap + κ) elem - (len + n)) old' (rep z.cells.toList (grownCap w (len + n) (cap + κ) elem - (len + n))) elem hocell (by rw [holen]; omega) (by rw [rep_length]; simp [hz3])
                refine ⟨ψ, _, _, hrun, hle, ?_, HRel.tagAs H' (Nat.lt_succ_self _) hpn (fun _ => ⟨_, _, heap_alloc_new _ _⟩)⟩
                have := VRel.slice (φ := ψ) (i := h.next) (off := off) (a' := ⟨_, off - off, none⟩) (len := len + n) (cap := len + n) hpn (Nat.le_refl _) (.inl rfl)
                have hg := hcapge (cap + κ)
                rw [show len + n + (grownCap w (len + n) (cap + κ) elem - (len + n)) = grownCap w (len + n) (cap + κ) elem from by omega, Nat.sub_self] at this
                exact this
            · cases hr
          · cases hr
        · cases hr
      · cases hr
  · cases hr

end Go.Abs
end
