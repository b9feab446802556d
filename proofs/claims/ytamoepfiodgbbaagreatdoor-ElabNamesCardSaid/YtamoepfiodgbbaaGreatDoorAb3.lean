/- A deterministic heap for the model, proved sound, and walks of the program over it: part 3. No condition. -/
import Derived.Test.YtamoepfiodgbbaaGreatDoorAb2
import Derived.Lib.UnsafeStr
import Derived.Recover
import Derived.Scope
import Derived.KernelRfl
import Derived.Laws.Externs
import Derived.Lib.Builder
import Derived.Lib.Bytealg
import Derived.Lib.MakeNoZero
import Derived.RangeFuncRecord
import Derived.LoopN
set_option linter.unusedVariables false
set_option linter.unusedSimpArgs false
set_option linter.unusedSectionVars false
section
/- make, copy, append, the maps' operations: held against the model's. -/
open Go.RowKit
namespace Go.Abs
variable {B0 : Zn} {w0 : World} {φ : Map} {h h' : AW} {w : World} {P : Program}

theorem run_checkKeyN {kt : TypeId} {d : TypeDesc} (hd : P.underlying kt = some d) (hk : keyKind d = true) (e : Bool) (n : Nat) (hn : n ≠ 0) (k : Value) : (Instr.checkKey e n kt k).run P w = .ok () w := by
  obtain ⟨m, rfl⟩ := Nat.exists_eq_succ_of_ne_zero hn
  exact run_checkKey' hd hk e m k

theorem makeSlice_ok (H : HRel B0 w0 φ h w) {t : TypeId} {l l' c c' v : Value} (hl : VRel φ l l') (hc : VRel φ c c') (hr : makeSliceV P h t l c = some (v, h')) : Out B0 w0 φ (Instr.makeSlice t l' c') P w v h' := by
  unfold makeSliceV at hr
  split at hr
  · rename_i ti kl nl kc nc ht
    obtain ⟨it, hit, hut, -⟩ := tiOf_ok ht
    cases hl.int_inv; cases hc.int_inv
    split at hr
    · rename_i elem hd
      rw [hd] at hut
      split at hr
      · rename_i te hte
        obtain ⟨ie, hie, hue, _, hsz, hby, hz⟩ := tiOf_ok hte
        split at hr
        · rename_i z hzz hb
          obtain ⟨hz1, hz2, hz3⟩ := hz z hzz
          simp only [Bool.and_eq_true] at hb
          have b1 := ble_true hb.1.1
          have b2 := ble_true hb.1.2
          have b3 := ble_true hb.2
          split at hr
          · split at hr
            · rename_i i h2 hn
              simp only [Option.some.injEq, Prod.mk.injEq] at hr
              obtain ⟨rfl, rfl⟩ := hr
              obtain ⟨ψ, h1, h2', h3⟩ := H.newVar hn (rep_flat hz2 nc) elem
              refine ⟨ψ, .slice (some ⟨w.heap.size, 0, none⟩) nl (nc + 0), _, ?_, h1, VRel.slice h2' (Nat.zero_le _) (.inl rfl), h3.tag (h3.dom _ _ h2') (fun b σ κ e => by rw [h2'] at e; cases e; exact ⟨_, _, heap_alloc_new _ _⟩)⟩
              have w1 := wrap_nat (n := nl) (by omega)
              have w2 := wrap_nat (n := nc) b3
              have hmul : (ie.bytes : Int) * (nc : Int) ≤ 281474976710656 := by
                have : ie.bytes * nc ≤ 140737488355328 := by rw [Nat.mul_comm, ← hby]; exact b2
                have h2 : ((ie.bytes * nc : Nat) : Int) ≤ 140737488355328 := by omega
                rw [Int.natCast_mul] at h2
                omega
              have hmul' : (ie.bytes : Int) * (nc : Int) ≤ 2 ^ 48 := by
                rw [show (2 : Int) ^ 48 = 281474976710656 by decide]; exact hmul
              have tl : ¬ ((nc : Int) < 0) := by omega
              have l0 : ¬ ((nl : Int) < 0) := by omega
              have l1 : ¬ ((nl : Int) > (nc : Int)) := by omega
              have hng : ¬ ((ie.bytes : Int) * (nc : Int) > 2 ^ 48) := by omega
              have cond : (((decide ((nc : Int) < 0) || decide ((ie.bytes : Int) * (nc : Int) > 2 ^ 48)) || decide ((nl : Int) < 0)) || decide ((nl : Int) > (nc : Int))) = false := by
                rw [decide_eq_false tl, decide_eq_false hng, decide_eq_false l0, decide_eq_false l1]; rfl
              have hrep : nc * te.size = 0 → rep z.cells.toList nc = [] := fun h0 => List.eq_nil_of_length_eq_zero (by rw [rep_length]; simp [hz3, h0])
              simp only [Instr.makeSlice, asInt, asIntOf, Sem.run_bind, run_underlying hut, Result.andThen_ok, Sem.run_pure, run_typeInfo' hie, Int.ofNat_eq_natCast, w1, w2]
              rw [cond]
              simp only [Bool.false_eq_true, if_false, Sem.run_bind, run_askRoom, Result.andThen_ok, Int.toNat_natCast, run_sizeOf' hie, ← hsz]
              by_cases h0 : nc * te.size = 0
              · have e0 : (Array.map (fun x => (#[] : Array Value)[x % (#[] : Array Value).size]!) (Array.range 0)) = ⟨[]⟩ := by simp
                rw [if_pos h0, hrep h0, h0]
                simp only [Sem.run_bind, Sem.run_pure, Result.andThen_ok, e0, newRow, run_newObj]
                rfl
              · rw [if_neg h0]
                have e := rep_range z.cells nc
                rw [hz3] at e
                simp only [Sem.run_bind, run_zeroValue' hie hz1, Result.andThen_ok, Sem.run_pure, hz3, e, newRow, run_newObj]
                simp
            · cases hr
          · cases hr
        · cases hr
      · cases hr
    · cases hr
  · cases hr

theorem sliceA_ok (H : HRel B0 w0 φ h w) {t : TypeId} {x x' m m' v : Value} {lo lo' hi hi' : Option Value} (hx : VRel φ x x') (hlo : ORelV φ lo lo') (hhi : ORelV φ hi hi') (hm : VRel φ m m') (hr : sliceA P h t x lo hi m = some (v, h')) :
    Out B0 w0 φ (Instr.sliceAt t x' lo' hi' (some m')) P w v h' := by
  unfold sliceA at hr
  split at hr
  · rename_i ti ht
    obtain ⟨it, hit, hut, -⟩ := tiOf_ok ht
    split at hr
    · rename_i elem a len cap hi1 hd
      rw [hd] at hut
      cases hi' with
      | none => exact hhi.elim
      | some hi2 =>
      split at hr
      · rename_i mm hmm
        split at hr
        · rename_i u hu
          split at hr
          · rename_i l hl
            split at hr
            · rename_i hml
              have hml := beq_true hml
              subst hml
              obtain ⟨km, rfl, hmle⟩ := bnd_ok hm hmm
              obtain ⟨ku, rfl, hule⟩ := bnd_ok hhi hu
              have hlu : mm ≤ u := by
                cases lo with
                | none => simp only [bndO, Option.some.injEq] at hl; omega
                | some y => cases lo' with
                  | none => exact hlo.elim
                  | some y' => exact (bnd_ok hlo hl).choose_spec.2
              have hu' : u = mm := by omega
              subst hu'
              have bounds : ∀ cap', cap ≤ cap' → (Instr.sliceBounds true len cap' lo' (some (.int ku (u : Int))) (some (.int km (u : Int)))).run P w = .ok (u, u, u) w := by
                intro cap' hc
                have r1 := fun c => run_sliceBound (P := P) w km (u : Int) cap' c (by omega) (by omega)
                have r2 := fun c => run_sliceBound (P := P) w ku (u : Int) u c (by omega) (by omega)
                cases lo with
                | none =>
                  simp only [bndO, Option.some.injEq] at hl
                  cases lo' with
                  | some _ => exact hlo.elim
                  | none =>
                    rw [show (u, u, u) = (0, u, u) from by rw [← hl]]
                    simp [Instr.sliceBounds, r1, r2]
                | some y => cases lo' with
                  | none => exact hlo.elim
                  | some y' =>
                    obtain ⟨ky, rfl, _⟩ := bnd_ok hlo hl
                    have r3 := fun c => run_sliceBound (P := P) w ky (u : Int) u c (by omega) (by omega)
                    simp [Instr.sliceBounds, r1, r2, r3]
              split at hr
              · cases hr
              rename_i te hte
              obtain ⟨ie, hie', -⟩ := tiOf_ok hte
              split at hr
              · rename_i bi off
                simp only [Option.some.injEq, Prod.mk.injEq] at hr
                obtain ⟨rfl, rfl⟩ := hr
                obtain ⟨_, b, σ, κ, a', hp, hσ, ho, rfl⟩ := hx.slice_inv
                obtain ⟨ψ, h1, h2, h3⟩ := H.newNone b
                refine ⟨ψ, .slice (some a') 0 (0 + 0), w, ?_, h1, VRel.slice h2 (Nat.zero_le _) (.inr ⟨rfl, rfl⟩), h3⟩
                simp only [Instr.sliceAt, Instr.slice, Sem.run_bind, run_underlying hut, Result.andThen_ok, bounds (cap + κ) (by omega), run_sizeOf' hie', Sem.run_pure, if_true, Nat.sub_self]
              · cases hr
              · simp only [Option.some.injEq, Prod.mk.injEq] at hr
                obtain ⟨rfl, rfl⟩ := hr
                cases hx.sliceN_inv
                refine ⟨φ, .slice none 0 0, w, ?_, φ.le_refl, .sliceN _ _, H⟩
                simp only [Instr.sliceAt, Instr.slice, Sem.run_bind, run_underlying hut, Result.andThen_ok, bounds cap (Nat.le_refl _), run_sizeOf' hie', Sem.run_pure, if_true, Nat.sub_self]
            · cases hr
          · cases hr
        · cases hr
      · cases hr
    · cases hr
  · cases hr

theorem upd_ok {d : TypeDesc} {k k' v v' : Value} (hk : VRel φ k k') (hv : VRel φ v v') : ∀ {es r : List (Value × Value)} {es' : List MapEntry} (i : Nat), L2 (fun (p : Value × Value) (e : MapEntry) => VRel φ p.1 e.key ∧ VRel φ p.2 e.val) es es' → upd d k v es = some r →
    (Instr.findNow d k' es' i = some none ∧ r = es ++ [(k, v)]) ∨
    ∃ j e, Instr.findNow d k' es' i = some (some (i + j, e.val)) ∧ es'[j]? = some e ∧ Instr.sameNow d k' e.key = some true ∧ r = es.set j (k, v)
  | [], r, es', i, hl, hr => by
    cases hl.nil_left
    simp only [upd, Option.some.injEq] at hr; subst hr
    exact .inl ⟨rfl, rfl⟩
  | (q, x) :: es, r, es', i, hl, hr => by
    obtain ⟨e, t, rfl, ⟨h1, h2⟩, h3⟩ := hl.cons_left
    simp only [upd] at hr
    split at hr
    · rename_i hs
      simp only [Option.some.injEq] at hr; subst hr
      have hs' := sameNow_rel hk h1 hs
      exact .inr ⟨0, e, by simp [Instr.findNow, hs'], rfl, hs', rfl⟩
    · rename_i hs
      have hs' := sameNow_rel hk h1 hs
      split at hr
      · rename_i r2 hr2
        simp only [Option.some.injEq] at hr; subst hr
        rcases upd_ok hk hv (i + 1) h3 hr2 with ⟨a, rfl⟩ | ⟨j, e2, a, b, c, rfl⟩
        · exact .inl ⟨by simp [Instr.findNow, hs', a], rfl⟩
        · exact .inr ⟨j + 1, e2, by simp [Instr.findNow, hs', a]; omega, by simpa using b, c, rfl⟩
      · cases hr
    · cases hr

theorem sameBits_of {d : TypeDesc} {a b : Value} (h : Instr.sameNow d a b = some true) (n : Nat) : Instr.sameBits n b a = true := by
  unfold Instr.sameNow at h
  split at h
  · split at h
    · rename_i hk; subst hk
      simp only [Option.some.injEq, beq_iff_eq] at h; subst h
      cases n <;> simp [Instr.sameBits]
    · cases h
  · simp only [Option.some.injEq] at h
    rw [beq_toListBytes, beq_iff_eq] at h
    cases n <;> (simp only [Instr.sameBits]; rw [beq_toListBytes, beq_iff_eq]; exact h.symm)
  · simp only [Option.some.injEq, beq_iff_eq] at h; subst h
    cases n <;> simp [Instr.sameBits]
  · cases h

theorem mapUpd_ok (H : HRel B0 w0 φ h w) {t : TypeId} {m m' k k' v v' : Value} (hm : VRel φ m m') (hk : VRel φ k k') (hv : VRel φ v v') (hr : mapUpdV P h t m k v = some h') :
    ∃ w', (Instr.mapUpdate t m' k' v').run P w = .ok () w' ∧ HRel B0 w0 φ h' w' := by
  unfold mapUpdV at hr
  split at hr
  · rename_i ti r ht
    obtain ⟨it, hit, hut, -⟩ := tiOf_ok ht
    split at hr
    · rename_i kt et hd
      rw [hd] at hut
      split at hr
      · rename_i tk htk
        obtain ⟨ik, hik, huk, -⟩ := tiOf_ok htk
        split at hr
        · rename_i es hkk ho
          split at hr
          · rename_i es2 hup
            simp only [Option.some.injEq] at hr; subst hr
            obtain ⟨b, σ, κ, hp, rfl⟩ := hm.map_inv
            obtain ⟨ents, clock, hw, hl, hset⟩ := H.setMap ho hp
            have hck := run_checkKeyN (w := w) huk hkk false 10000 (by omega) k'
            rcases upd_ok hk hv 0 hl hup with ⟨hf, rfl⟩ | ⟨j, e, hf, he, hs, rfl⟩
            · refine ⟨_, ?_, hset _ (ents.push { key := k', val := v', born := clock }) (clock + 1) (by
                simp only [Array.toList_push]
                exact hl.append (L2.cons ⟨hk, hv⟩ L2.nil))⟩
              simp only [Instr.mapUpdate, Sem.run_bind, run_underlying hut, Result.andThen_ok, run_getObj' hw]
              rw [hck]
              simp only [Result.andThen_ok, run_findKey' huk hf, run_setObj' _ hw]
            · have he' : ents[j]? = some e := by simpa using he
              refine ⟨_, ?_, hset _ (ents.modify j fun e => { e with key := k', val := v' }) clock (by
                have : (ents.modify j fun e => { e with key := k', val := v' }).toList = ents.toList.set j { e with key := k', val := v' } := by
                  apply List.ext_getElem?
                  intro i
                  rw [Array.getElem?_toList, Array.getElem?_modify, List.getElem?_set]
                  by_cases hij : j = i
                  · subst hij
                    rw [if_pos rfl, he', if_pos rfl]
                    have : j < ents.toList.length := (List.getElem?_eq_some_iff.1 he).1
                    rw [if_pos this]; rfl
                  · rw [if_neg hij, if_neg hij, Array.getElem?_toList]
                rw [this]
                exact hl.set j ⟨hk, hv⟩)⟩
              simp only [Instr.mapUpdate, Sem.run_bind, run_underlying hut, Result.andThen_ok, run_getObj' hw]
              rw [hck]
              have hb := sameBits_of hs 10000
              simp only [Nat.zero_add] at hf
              simp only [Result.andThen_ok, run_findKey' huk hf, he', Option.map_some, Option.getD_some, Instr.keyThatStays]
              rw [hb]
              simp only [if_true, Sem.run_bind, Sem.run_pure, Result.andThen_ok, run_setObj' _ hw]
          · cases hr
        · cases hr
      · cases hr
    · cases hr
  · cases hr

theorem del_ok {d : TypeDesc} {k k' : Value} (hk : VRel φ k k') : ∀ {es r : List (Value × Value)} {es' : List MapEntry} (i : Nat), L2 (fun (p : Value × Value) (e : MapEntry) => VRel φ p.1 e.key ∧ VRel φ p.2 e.val) es es' → del d k es = some r →
    (Instr.findNow d k' es' i = some none ∧ r = es) ∨ ∃ j v, Instr.findNow d k' es' i = some (some (i + j, v)) ∧ j < es'.length ∧ r = es.eraseIdx j
  | [], r, es', i, hl, hr => by
    cases hl.nil_left
    simp only [del, Option.some.injEq] at hr; subst hr
    exact .inl ⟨rfl, rfl⟩
  | (q, x) :: es, r, es', i, hl, hr => by
    obtain ⟨e, t, rfl, ⟨h1, h2⟩, h3⟩ := hl.cons_left
    simp only [del] at hr
    split at hr
    · rename_i hs
      simp only [Option.some.injEq] at hr; subst hr
      have hs' := sameNow_rel hk h1 hs
      exact .inr ⟨0, e.val, by simp [Instr.findNow, hs'], by simp, rfl⟩
    · rename_i hs
      have hs' := sameNow_rel hk h1 hs
      split at hr
      · rename_i r2 hr2
        simp only [Option.some.injEq] at hr; subst hr
        rcases del_ok hk (i + 1) h3 hr2 with ⟨a, rfl⟩ | ⟨j, v, a, b, rfl⟩
        · exact .inl ⟨by simp [Instr.findNow, hs', a], rfl⟩
        · exact .inr ⟨j + 1, v, by simp [Instr.findNow, hs', a]; omega, by simpa using b, rfl⟩
      · cases hr
    · cases hr

theorem L2.eraseIdx {α β : Type} {R : α → β → Prop} : ∀ {l : List α} {l' : List β} (j : Nat), L2 R l l' → L2 R (l.eraseIdx j) (l'.eraseIdx j)
  | [], l', j, h => by cases h.nil_left; exact L2.nil
  | a :: l, l', j, h => by
    obtain ⟨b, t, rfl, h1, h2⟩ := h.cons_left
    cases j with
    | zero => exact h2
    | succ j => exact L2.cons h1 (L2.eraseIdx j h2)

theorem delete_ok (H : HRel B0 w0 φ h w) {ts : Array TypeId} {ty : TypeId} {args args' : List Value} {v : Value} (ha : LRel φ args args') (hr : deleteB P h ts args = some (v, h')) : Out B0 w0 φ (Builtin.delete_ ts ty ⟨args'⟩) P w v h' := by
  unfold deleteB at hr
  split at hr
  · rename_i t rest m k hts
    obtain ⟨m', a2, rfl, hm, ha2⟩ := ha.cons_left
    obtain ⟨k', a3, rfl, hk, ha3⟩ := ha2.cons_left
    cases ha3.nil_left
    have hts0 : ts[0]? = some t := by rw [← Array.getElem?_toList, hts]; rfl
    split at hr
    · rename_i ti ht
      obtain ⟨it, hit, hut, -⟩ := tiOf_ok ht
      split at hr
      · rename_i kt et r hd
        rw [hd] at hut
        split at hr
        · rename_i tk htk
          obtain ⟨ik, hik, huk, -⟩ := tiOf_ok htk
          split at hr
          · rename_i es hkk ho
            split at hr
            · rename_i es2 hup
              simp only [Option.some.injEq, Prod.mk.injEq] at hr
              obtain ⟨rfl, rfl⟩ := hr
              obtain ⟨b, σ, κ, hp, rfl⟩ := hm.map_inv
              obtain ⟨ents, clock, hw, hl, hset⟩ := H.setMap ho hp
              have hck := run_checkKeyN (w := w) huk hkk ents.isEmpty 10000 (by omega) k'
              rcases del_ok hk 0 hl hup with ⟨hf, rfl⟩ | ⟨j, v, hf, hj, rfl⟩
              · refine ⟨φ, _, _, ?_, φ.le_refl, VRel.undef, hset _ ents clock hl⟩
                simp only [Builtin.delete_, hts0, List.getElem?_toArray, List.getElem?_cons_zero, List.getElem?_cons_succ, Sem.run_bind, run_underlying hut, Result.andThen_ok, run_getObj' hw]
                rw [hck]
                simp only [Result.andThen_ok, run_findKey' huk hf, Sem.run_bind, run_setObj' _ hw, Sem.run_pure]
                rfl
              · refine ⟨φ, _, _, ?_, φ.le_refl, VRel.undef, hset _ (ents.eraseIdxIfInBounds j) clock (by
                  rw [Array.toList_eraseIdxIfInBounds]; exact L2.eraseIdx j hl)⟩
                simp only [Nat.zero_add] at hf
                simp only [Builtin.delete_, hts0, List.getElem?_toArray, List.getElem?_cons_zero, List.getElem?_cons_succ, Sem.run_bind, run_underlying hut, Result.andThen_ok, run_getObj' hw]
                rw [hck]
                simp only [Result.andThen_ok, run_findKey' huk hf, Sem.run_bind, run_setObj' _ hw, Sem.run_pure]
                rfl
            · cases hr
          · cases hr
        · cases hr
      · cases hr
    · cases hr
  · cases hr

end Go.Abs
end

section
/- copy, clear, append: held against the model's. -/
open Go.RowKit
namespace Go.Abs
variable {B0 : Zn} {w0 : World} {φ : Map} {h h' : AW} {w : World} {P : Program}

theorem stores_ok (H : HRel B0 w0 φ h w) {i off len cap : Nat} {x' : Value} {l l' : List Value} (hx : VRel φ (.slice (some ⟨i, off, none⟩) len cap) x') (hw : h.wrL i off l = some h') (hl : LRel φ l l') (h0 : len = 0 → l = []) :
    ∃ a' cap', x' = .slice (some a') len cap' ∧ ∃ w', (storeCells a' l' 0).run P w = .ok () w' ∧ HRel B0 w0 φ h' w' := by
  obtain ⟨_, b, σ, κ, a', hp, hσ, ho, rfl⟩ := hx.slice_inv
  refine ⟨a', cap + κ, rfl, ?_⟩
  rcases ho with rfl | ⟨hz, _⟩
  · exact HRel.wrL (P := P) (h := h) (fun _ => rfl) hp (k := 0) H hw hl (off - σ) (fun hne => ⟨by omega, hσ⟩)
  · have := h0 hz; subst this
    simp only [AW.wrL, Option.some.injEq] at hw
    subst hw
    rw [hl.nil_left]
    exact ⟨w, by simp [storeCells], H⟩

theorem clear_ok (H : HRel B0 w0 φ h w) {ts : Array TypeId} {ty : TypeId} {args args' : List Value} {v : Value} (ha : LRel φ args args') (hr : clearB P h ts args = some (v, h')) : Out B0 w0 φ (Builtin.clear_ ts ty ⟨args'⟩) P w v h' := by
  unfold clearB at hr
  split at hr
  · rename_i t x hts
    obtain ⟨x', t', rfl, hx, ht'⟩ := ha.cons_left
    cases ht'.nil_left
    have hts0 : ts[0]? = some t := by rw [← Array.getElem?_toList, hts]; rfl
    split at hr
    · rename_i ti ht
      obtain ⟨it, hit, hut, -⟩ := tiOf_ok ht
      split at hr
      · simp only [Option.some.injEq, Prod.mk.injEq] at hr
        obtain ⟨rfl, rfl⟩ := hr
        cases hx.mapN_inv
        exact ⟨φ, .tuple #[], w, by simp [Builtin.clear_, hts0, run_underlying hut], φ.le_refl, VRel.undef, H⟩
      · simp only [Option.some.injEq, Prod.mk.injEq] at hr
        obtain ⟨rfl, rfl⟩ := hr
        cases hx.sliceN_inv
        exact ⟨φ, .tuple #[], w, by simp [Builtin.clear_, hts0, run_underlying hut], φ.le_refl, VRel.undef, H⟩
      · split at hr
        · rename_i es ho
          simp only [Option.some.injEq, Prod.mk.injEq] at hr
          obtain ⟨rfl, rfl⟩ := hr
          obtain ⟨b, σ, κ, hp, rfl⟩ := hx.map_inv
          obtain ⟨ents, clock, hw, hl, hset⟩ := H.setMap ho hp
          exact ⟨φ, .tuple #[], _, by simp [Builtin.clear_, hts0, run_underlying hut, run_getObj' hw, run_setObj' _ hw], φ.le_refl, VRel.undef, hset [] #[] clock L2.nil⟩
        · cases hr
      · rename_i i off n c
        split at hr
        · rename_i elem hd
          rw [hd] at hut
          split at hr
          · rename_i te hte
            obtain ⟨ie, hie, hue, _, hsz, hby, hz⟩ := tiOf_ok hte
            split at hr
            · rename_i z hzz
              obtain ⟨hz1, hz2, hz3⟩ := hz z hzz
              split at hr
              · rename_i h2 hw
                simp only [Option.some.injEq, Prod.mk.injEq] at hr
                obtain ⟨rfl, rfl⟩ := hr
                obtain ⟨a', cap', rfl, w', hrun, H'⟩ := stores_ok (P := P) H hx hw (rep_flat hz2 n) (fun h0 => by subst h0; rfl)
                refine ⟨φ, .tuple #[], w', ?_, φ.le_refl, VRel.undef, H'⟩
                cases n with
                | zero =>
                  simp only [rep, storeCells, Sem.run_pure] at hrun
                  cases hrun
                  simp [Builtin.clear_, hts0, run_underlying hut]
                | succ n =>
                  have hzc : (Builtin.zeroCells z.cells (n + 1)).toList = rep z.cells.toList (n + 1) := by
                    unfold Builtin.zeroCells
                    rw [rep_range]
                  simp only [Builtin.clear_, hts0, List.getElem?_toArray, List.getElem?_cons_zero, Sem.run_bind, run_underlying hut, Result.andThen_ok, run_zeroValue' hie hz1, hzc, hrun, Sem.run_pure]
              · cases hr
            · cases hr
          · cases hr
        · cases hr
      · cases hr
    · cases hr
  · cases hr

theorem goInt_rel {n : Nat} : VRel φ (goInt n) (goInt n) := .int _ _

theorem copy_ok (H : HRel B0 w0 φ h w) {ts : Array TypeId} {ty : TypeId} {args args' : List Value} {v : Value} (ha : LRel φ args args') (hr : copyB P h ts args = some (v, h')) : Out B0 w0 φ (Builtin.copy_ ts ty ⟨args'⟩) P w v h' := by
  unfold copyB at hr
  split at hr
  · rename_i td rest base dlen dcap src hts
    obtain ⟨d', a2, rfl, hd, ha2⟩ := ha.cons_left
    obtain ⟨s', a3, rfl, hs, ha3⟩ := ha2.cons_left
    cases ha3.nil_left
    have hts0 : ts[0]? = some td := by rw [← Array.getElem?_toList, hts]; rfl
    split at hr
    · rename_i ti ht
      obtain ⟨it, hit, hut, -⟩ := tiOf_ok ht
      split at hr
      · rename_i elem hdu
        rw [hdu] at hut
        split at hr
        · rename_i te hte
          obtain ⟨ie, hie, hue, _, hsz, -⟩ := tiOf_ok hte
          split at hr
          · rename_i n l hsrc
            -- what is read
            have read : ∃ (m : Nat) (l' : List Value), (Builtin.lenOf s').run P w = .ok m w ∧ Nat.min m dlen = n ∧ (Builtin.firstCells ie.size n s').run P w = .ok ⟨l'⟩ w ∧ LRel φ l l' ∧ (n = 0 → l = []) := by
              split at hsrc
              · rename_i n2 c2
                cases hs.sliceN_inv
                split at hsrc
                · rename_i hb
                  have := beq_true hb; subst this
                  simp only [Option.some.injEq, Prod.mk.injEq] at hsrc
                  obtain ⟨rfl, rfl⟩ := hsrc
                  exact ⟨0, [], rfl, by simp, rfl, L2.nil, fun _ => rfl⟩
                · cases hsrc
              · rename_i i off n2 c2
                obtain ⟨_, b, σ, κ, a', hp, hσ, ho, rfl⟩ := hs.slice_inv
                split at hsrc
                · rename_i l2 hl2
                  simp only [Option.some.injEq, Prod.mk.injEq] at hsrc
                  obtain ⟨rfl, rfl⟩ := hsrc
                  obtain ⟨l', hlr, hlen, hrun⟩ := loadCells_ok (P := P) H hp hl2
                  refine ⟨n2, l', rfl, rfl, ?_, hlr, fun h0 => ?_⟩
                  · simp only [Builtin.firstCells]
                    rcases ho with rfl | ⟨rfl, _⟩
                    · rw [← hsz]; exact hrun
                    · have h0 : Nat.min 0 dlen = 0 := by simp
                      rw [h0] at hlen ⊢
                      have : l' = [] := List.eq_nil_of_length_eq_zero (by simpa using hlen)
                      subst this
                      simp [loadCells, loadCellsFrom]
                  · have : l'.length = 0 := by rw [hlen, h0]; simp
                    exact List.eq_nil_of_length_eq_zero (by rw [hlr.1]; exact this)
                · cases hsrc
              · rename_i b
                cases hs.string_inv
                simp only [Option.some.injEq, Prod.mk.injEq] at hsrc
                obtain ⟨rfl, rfl⟩ := hsrc
                refine ⟨b.size, _, rfl, rfl, ?_, ofBytes_rel _, fun h0 => ?_⟩
                · simp only [Builtin.firstCells, Sem.run_pure]
                  congr 1
                  apply Array.ext'
                  simp [ofBytes, ByteArray.data_extract]
                · rw [h0]; rfl
              · cases hsrc
            obtain ⟨m, l', hlen, hmin, hfirst, hll, hz⟩ := read
            split at hr
            · simp only [Option.some.injEq, Prod.mk.injEq] at hr
              obtain ⟨rfl, rfl⟩ := hr
              cases hd.sliceN_inv
              refine ⟨φ, _, w, ?_, φ.le_refl, goInt_rel, H⟩
              simp only [Builtin.copy_, hts0, List.getElem?_toArray, List.getElem?_cons_zero, List.getElem?_cons_succ, Sem.run_bind, run_underlying hut, Result.andThen_ok, hlen, hmin, run_sizeOf' hie, hfirst, Sem.run_pure]
            · rename_i i off
              split at hr
              · rename_i h2 hw
                simp only [Option.some.injEq, Prod.mk.injEq] at hr
                obtain ⟨rfl, rfl⟩ := hr
                obtain ⟨a', cap', rfl, w', hrun, H'⟩ := stores_ok (P := P) H hd hw hll (fun h0 => hz (by rw [← hmin, h0]; simp))
                refine ⟨φ, _, w', ?_, φ.le_refl, goInt_rel, H'⟩
                simp only [Builtin.copy_, hts0, List.getElem?_toArray, List.getElem?_cons_zero, List.getElem?_cons_succ, Sem.run_bind, run_underlying hut, Result.andThen_ok, hlen, hmin, run_sizeOf' hie, hfirst, Sem.run_pure]
                rw [hrun]
                simp
              · cases hr
            · cases hr
          · cases hr
        · cases hr
      · cases hr
    · cases hr
  · cases hr

def appendTail (elem : TypeId) (size sLen sCap n : Nat) (s : Value) (base : Option Addr) (x : Value) (zeros : Bool) (appended : Sem (Array Value)) : Sem Value := do
  let need := sLen + n
  if need ≤ sCap then
    let new ← appended
    if let some a := base then storeCells (a.add (sLen * size)) new.toList
    pure (.slice base need sCap)
  else
    if (need : Int) > IntKind.i64.max ∧ (zeros ∨ (← typeInfo elem).bytes = 0) then runtimePanic (.error "growslice: len out of range")
    if Builtin.nextslicecap need sCap * (← typeInfo elem).bytes > 2 ^ 48 then (if zeros then runtimePanic (.error "growslice: len out of range") else do
      if !(← Builtin.mayShare size sLen n base x) then mark .noRoom
      unsupported (.resourceLimit "append: a slice or a string whose bytes no memory bears"))
    let newCap ← choose (.appendCap need sCap elem)
    askRoom (newCap * (← typeInfo elem).bytes)
    let old ← Builtin.firstCells size sLen s
    let new ← appended
    let rest := Builtin.zeroCells (← zeroValue elem).cells (newCap - need)
    pure (.slice (some (← newRow elem (old ++ new ++ rest))) need newCap)

/-- What an append does, whatever it appends. -/
theorem appendTail_ok (H : HRel B0 w0 φ h w) {elem : TypeId} {s s' x' v : Value} {n : Nat} {new new' : List Value} {zeros : Bool} {appended : Sem (Array Value)} {base' : Option Addr} {sLen sCap' : Nat}
    (hs : VRel φ s s') (hs' : s' = .slice base' sLen sCap') {ie : TypeInfo} (hie : P.info? elem = some ie)
    (happ : appended.run P w = .ok ⟨new'⟩ w ∧ appended.run P w.drew = .ok ⟨new'⟩ w.drew) (hl : LRel φ new new') (hr : appendV P h elem s n new = some (v, h')) :
    Out B0 w0 φ (appendTail elem ie.size sLen sCap' n s' base' x' zeros appended) P w v h' := by
  unfold appendV at hr
  split at hr
  · rename_i te base len cap hte
    obtain ⟨ie2, hie2, hue, _, hsz, hby, hz⟩ := tiOf_ok hte
    rw [hie] at hie2; cases hie2
    split at hr
    · cases hr
    rename_i hnl
    have hnl := beq_true hnl
    split at hr
    · rename_i hble
      have hble := ble_true hble
      split at hr
      · rename_i i off
        split at hr
        · rename_i h2 hw
          simp only [Option.some.injEq, Prod.mk.injEq] at hr
          obtain ⟨rfl, rfl⟩ := hr
          obtain ⟨_, b, σ, κ, a', hp, hσ, ho, he⟩ := hs.slice_inv
          rw [he] at hs'
          simp only [Value.slice.injEq] at hs'
          obtain ⟨e1, e2, e3⟩ := hs'
          subst e1; subst e2; subst e3
          obtain ⟨w', hrun, H'⟩ : ∃ w', (storeCells (a'.add (len * te.size)) new' 0).run P w = .ok () w' ∧ HRel B0 w0 φ h2 w' := by
            rcases ho with h | ⟨h1, h2⟩
            · subst h
              rw [Addr.add_lit]
              exact HRel.wrL (P := P) (h := h) (fun _ => rfl) hp (k := 0) H hw hl (off - σ + len * te.size) (fun hne => ⟨by omega, by omega⟩)
            · have hn0 : n = 0 := by omega
              rw [hn0] at hnl
              have : new = [] := List.eq_nil_of_length_eq_zero (by simpa using hnl)
              subst this
              simp only [AW.wrL, Option.some.injEq] at hw
              subst hw
              rw [hl.nil_left]
              exact ⟨w, by simp [storeCells], H⟩
          refine ⟨φ, .slice (some a') (len + n) (cap + κ), w', ?_, φ.le_refl, ?_, H'⟩
          · subst he
            simp only [appendTail]
            rw [if_pos (by omega)]
            simp only [Sem.run_bind, happ.1, Result.andThen_ok, ← hsz]
            rw [hrun]
            simp
          · refine VRel.slice hp hσ ?_
            rcases ho with h | ⟨h1, h2⟩
            · exact .inl h
            · exact .inr ⟨by omega, h2⟩
        · cases hr
      · cases hr
      · simp only [Option.some.injEq, Prod.mk.injEq] at hr
        obtain ⟨rfl, rfl⟩ := hr
        have he := hs.sliceN_inv
        rw [he] at hs'
        simp only [Value.slice.injEq] at hs'
        obtain ⟨e1, e2, e3⟩ := hs'
        subst e1; subst e2; subst e3
        refine ⟨φ, .slice none (len + n) cap, w, ?_, φ.le_refl, .sliceN _ _, H⟩
        simp only [appendTail]
        rw [if_pos (by omega)]
        simp only [Sem.run_bind, happ.1, Result.andThen_ok]
        simp
    · rename_i hnb
      have hgt : cap < len + n := by
        rcases Nat.lt_or_ge cap (len + n) with h | h
        · exact h
        · rw [Nat.ble_eq_true_of_le h] at hnb; cases hnb
      split at hr
      · cases hr
      rename_i hroom
      simp only [Bool.and_eq_true] at hroom
      obtain ⟨⟨⟨hroom1, hroom2⟩, hone⟩, hzs⟩ := hroom
      have hroom1 : (len + n) * te.bytes ≤ 70368744177664 := ble_true hroom1
      have hroom2 := ble_true hroom2
      obtain ⟨z, hzz⟩ := Option.isSome_iff_exists.1 hzs
      obtain ⟨hz1, hz2, hz3⟩ := hz z hzz
      -- a growth: whatever the new capacity
      have growRun : ∀ (old' : List Value), sLen = len → sCap' < len + n → (Builtin.firstCells ie.size len s').run P w.drew = .ok ⟨old'⟩ w.drew →
          (appendTail elem ie.size sLen sCap' n s' base' x' zeros appended).run P w =
            .ok (.slice (some ⟨w.heap.size, 0, none⟩) (len + n) (grownCap w (len + n) sCap' elem)) (w.drew.alloc (.cells ⟨old' ++ new' ++ rep z.cells.toList (grownCap w (len + n) sCap' elem - (len + n))⟩ elem)) := by
        intro old' e1 e2 hold
        subst e1
        have hfit : ¬ (Builtin.nextslicecap (sLen + n) sCap' * ie.bytes > 2 ^ 48) := by
          have := growslice_fits (bytes := ie.bytes) e2 (by rw [← hby]; omega)
          rw [show (2 : Nat) ^ 48 = 281474976710656 from by decide]; omega
        have hmax : ¬ (((sLen + n : Nat) : Int) > IntKind.i64.max ∧ (zeros = true ∨ ie.bytes = 0)) := by
          rw [show IntKind.i64.max = 9223372036854775807 from by decide]; omega
        unfold appendTail
        simp only []
        rw [if_neg (by omega)]
        simp only [Sem.run_bind, run_typeInfo' hie, Result.andThen_ok]
        rw [if_neg hmax]
        simp only [Sem.run_bind, run_typeInfo' hie, Result.andThen_ok]
        rw [if_neg hfit]
        simp only [Sem.run_bind, run_typeInfo' hie, Sem.run_pure, run_choose, Question.forced, Bool.false_eq_true, if_false, Result.andThen_ok, run_askRoom]
        rw [show ({ w with drawn := w.drawn + 1 } : World) = w.drew from rfl, hold]
        simp only [Result.andThen_ok, happ.2, run_zeroValue' hie hz1, newRow, run_newObj, Sem.run_bind, Sem.run_pure]
        have hcells : (⟨old'⟩ ++ ⟨new'⟩ ++ Builtin.zeroCells z.cells ((Question.appendCap (sLen + n) sCap' elem).cut (w.tape w.drawn (Question.appendCap (sLen + n) sCap' elem)) - (sLen + n)) : Array Value) =
            ⟨old' ++ new' ++ rep z.cells.toList (grownCap w (sLen + n) sCap' elem - (sLen + n))⟩ := by
          unfold Builtin.zeroCells
          rw [rep_range]
          apply Array.ext'
          simp [grownCap]
        rw [hcells]
        rfl
      have hcapge : ∀ c, len + n ≤ grownCap w (len + n) c elem := fun c => appendCap_ge
      split at hr
      · split at hr
        · rename_i j h2 hb0 hn
          simp only [Option.some.injEq, Prod.mk.injEq] at hr
          obtain ⟨rfl, rfl⟩ := hr
          have := beq_true hb0; subst this
          have he := hs.sliceN_inv
          rw [he] at hs'
          simp only [Value.slice.injEq] at hs'
          obtain ⟨e1, e2, e3⟩ := hs'
          subst e1; subst e2; subst e3
          have hrun := growRun [] rfl hgt (by rw [he]; simp [Builtin.firstCells])
          obtain ⟨ψ, h1, h2', h3⟩ := H.drew.newRow hn hl (rest := rep z.cells.toList (grownCap w (0 + n) cap elem - (0 + n))) elem (grownCap w (0 + n) cap elem - (0 + n)) (by rw [rep_length]; simp [hz3])
          refine ⟨ψ, _, _, hrun, h1, ?_, h3.tag (h3.dom _ _ h2') (fun b σ κ e => by rw [h2'] at e; cases e; exact ⟨_, _, heap_alloc_new _ _⟩)⟩
          have := VRel.slice (φ := ψ) (len := n) (cap := n) h2' (Nat.zero_le 0) (.inl (by rfl))
          have hg := hcapge cap
          simp only [Nat.zero_add] at hg this ⊢
          rw [show n + (grownCap w n cap elem - n) = grownCap w n cap elem from by omega] at this
          exact this
        · cases hr
      · rename_i i off
        obtain ⟨_, b, σ, κ, a', hp, hσ, ho, he⟩ := hs.slice_inv
        have hs2 := hs'
        rw [he] at hs2
        simp only [Value.slice.injEq] at hs2
        obtain ⟨e1, e2, e3⟩ := hs2
        subst e1; subst e2; subst e3
        split at hr
        · rename_i cs m ro hob
          obtain ⟨b2, σ2, κ2, hp2, hR⟩ := H.obj i _ hob
          rw [hp] at hp2; cases hp2
          obtain ⟨rfl, rfl, -⟩ := hR
          split at hr
          · rename_i old hold
            split at hr
            · rename_i j h2 hn
              simp only [Option.some.injEq, Prod.mk.injEq] at hr
              obtain ⟨rfl, rfl⟩ := hr
              obtain ⟨old', hor, holen, horun⟩ := loadCells_ok (P := P) H.drew hp hold
              have hfirst : (Builtin.firstCells ie.size len s').run P w.drew = .ok ⟨old'⟩ w.drew := by
                rw [he]
                simp only [Builtin.firstCells]
                rcases ho with h | ⟨h1, _⟩
                · rw [h, ← hsz]; exact horun
                · subst h1
                  have : old' = [] := List.eq_nil_of_length_eq_zero (by simpa using holen)
                  subst this
                  simp [loadCells, loadCellsFrom]
              have hrun := growRun old' rfl (by omega) hfirst
              obtain ⟨ψ, h1, h2', h3⟩ := H.drew.newRow hn (hor.append hl) (rest := rep z.cells.toList (grownCap w (len + n) (cap + 0) elem - (len + n))) elem (grownCap w (len + n) (cap + 0) elem - (len + n)) (by rw [rep_length]; simp [hz3])
              refine ⟨ψ, _, _, hrun, h1, ?_, h3.tag (h3.dom _ _ h2') (fun b σ κ e => by rw [h2'] at e; cases e; exact ⟨_, _, heap_alloc_new _ _⟩)⟩
              have := VRel.slice (φ := ψ) (len := len + n) (cap := len + n) h2' (Nat.zero_le 0) (.inl (by rfl))
              have hg := hcapge (cap + 0)
              rw [show len + n + (grownCap w (len + n) (cap + 0) elem - (len + n)) = grownCap w (len + n) (cap + 0) elem from by omega] at this
              exact this
            · cases hr
          · cases hr
        · rename_i f g lo hi sz cs hob
          split at hr
          · rename_i fm hfm
            split at hr
            · rename_i hc
              simp only [Bool.and_eq_true] at hc
              obtain ⟨⟨⟨⟨⟨c1, c2⟩, c3⟩, c4⟩, c5⟩, c6⟩ := hc
              have c1 := beq_true c1
              have c2 := ble_true c2
              have c3 := beq_true c3
              have c4 := ble_true c4
              have c5 := beq_true c5
              have c6 := ble_true c6
              subst c3
              simp only [Option.some.injEq, Prod.mk.injEq] at hr
              obtain ⟨rfl, rfl⟩ := hr
              obtain ⟨hin, hgrow⟩ := H.drew.grow (P := P) hob hp hfm c1 (off := off) (e := off + len * te.size) c2 (by omega) c4 c6 hl hone rfl
              obtain ⟨hin', -⟩ := H.grow (P := P) hob hp hfm c1 (off := off) (e := off + len * te.size) c2 (by omega) c4 c6 hl hone rfl
              obtain ⟨b3, σ3, κ3, hp3, hR⟩ := H.obj i _ hob
              rw [hp] at hp3; cases hp3
              obtain ⟨q1, q2, q3, q4, q5, q6⟩ := hR fm hfm c1
              by_cases hfit : len + n ≤ cap + κ
              · -- room in the array: written in place
                have hcapsz : cap * te.size + κ * te.size = (cap + κ) * te.size := by rw [Nat.add_mul]
                have hnsz : len * te.size + n * te.size = (len + n) * te.size := by rw [Nat.add_mul]
                have hsub : (cap + κ) * te.size = (len + n) * te.size + (cap + κ - (len + n)) * te.size := by rw [← Nat.add_mul]; congr 1; omega
                obtain ⟨w', ψ, hrun, hle, hpn, H'⟩ := hin' (cap + κ - (len + n)) (by omega)
                have hoff : a' = ⟨b, off - σ, none⟩ := by
                  rcases ho with h | ⟨h1, h2⟩
                  · exact h
                  · omega
                refine ⟨ψ, .slice (some a') (len + n) (cap + κ), w', ?_, hle, ?_, HRel.tagAs H' (Nat.lt_succ_self _) hpn (fun e => (H'.ty.1 i elem e).2 _ _ _ (hle _ _ hp))⟩
                · rw [he]
                  simp only [appendTail]
                  rw [if_pos hfit]
                  simp only [Sem.run_bind, happ.1, Result.andThen_ok, Addr.add_lit, ← hsz]
                  rw [hoff, Addr.add_lit, show off - σ + len * te.size = off + len * te.size - σ from by omega]
                  rw [hrun]
                  simp
                · have := VRel.slice (φ := ψ) (i := h.next) (off := off) (len := len + n) (cap := len + n) hpn hσ (.inl rfl)
                  rw [show len + n + (cap + κ - (len + n)) = cap + κ from by omega] at this
                  rw [hoff]; exact this
              · -- a new array
                have hexists : ∃ old' : List Value, old'.length = len * te.size ∧ ∀ j v', old'[j]? = some v' → w.cell? ⟨b, off - σ + j, none⟩ = some v' := by
                  refine ⟨(List.range (len * te.size)).map fun j => (w.cell? ⟨b, off - σ + j, none⟩).getD undef, by simp, fun j v' hj => ?_⟩
                  rw [List.getElem?_map] at hj
                  cases hrg : (List.range (len * te.size))[j]? with
                  | none => simp [hrg] at hj
                  | some k =>
                    simp only [hrg, Option.map_some, Option.some.injEq] at hj
                    have hlt : j < len * te.size := by have := (List.getElem?_eq_some_iff.1 hrg).1; simpa using this
                    have hk : k = j := by
                      rw [List.getElem?_range hlt] at hrg; exact (Option.some.inj hrg).symm
                    subst hk
                    obtain ⟨u, hu⟩ := q5 (off + k) (by omega) (by have : 0 ≤ κ * te.size := Nat.zero_le _; omega)
                    rw [show off - σ + k = off + k - σ from by omega, hu] at hj ⊢
                    simpa using hj
                obtain ⟨old', holen, hocell⟩ := hexists
                have hfirst : (Builtin.firstCells ie.size len s').run P w.drew = .ok ⟨old'⟩ w.drew := by
                  rw [he]
                  simp only [Builtin.firstCells, ← hsz]
                  rcases ho with h | ⟨h1, _⟩
                  · rw [h, ← holen]
                    exact run_loadCells_list (P := P) w.drew ⟨b, off - σ, none⟩ old' (fun j v' hv => by rw [Addr.add_lit]; exact hocell j v' hv)
                  · subst h1
                    have : old' = [] := List.eq_nil_of_length_eq_zero (by simpa using holen)
                    subst this
                    simp [loadCells, loadCellsFrom]
                have hrun := growRun old' rfl (by omega) hfirst
                obtain ⟨ψ, hle, hpn, H'⟩ := hgrow (grownCap w (len + n) (cap + κ) elem - (len + n)) old' (rep z.cells.toList (grownCap w (len + n) (cap + κ) elem - (len + n))) elem hocell (by rw [holen]; omega) (by rw [rep_length]; simp [hz3])
                refine ⟨ψ, _, _, hrun, hle, ?_, HRel.tagAs H' (Nat.lt_succ_self _) hpn (fun _ => ⟨_, _, heap_alloc_new _ _⟩)⟩
                have := VRel.slice (φ := ψ) (i := h.next) (off := off) (a' := ⟨_, off - off, none⟩) (len := len + n) (cap := len + n) hpn (Nat.le_refl _) (.inl rfl)
                have hg := hcapge (cap + κ)
                rw [show len + n + (grownCap w (len + n) (cap + κ) elem - (len + n)) = grownCap w (len + n) (cap + κ) elem from by omega, Nat.sub_self] at this
                exact this
            · cases hr
          · cases hr
        · cases hr
      · cases hr
  · cases hr

end Go.Abs
end

section
/- Every operation that is no call of a function, held against the model's. -/
open Go.RowKit
namespace Go.Abs
variable {B0 : Zn} {w0 : World} {φ : Map} {h h' : AW} {w : World} {P : Program}

theorem append_tail {ts : Array TypeId} {ty tS tX elem : TypeId} {s' x' : Value} {base' : Option Addr} {sLen sCap' n : Nat} {ie : TypeInfo} {dX : TypeDesc} (hts : ts.toList = [tS, tX])
    (hs' : s' = .slice base' sLen sCap') (hu : P.underlying tS = some (.slice elem)) (hie : P.info? elem = some ie) (hx : P.underlying tX = some dX) (hni : isInt dX = false) (hlen : (Builtin.lenOf x').run P w = .ok n w) :
    (Builtin.append_ ts ty ⟨[s', x']⟩).run P w = (appendTail elem ie.size sLen sCap' n s' base' x' false (Builtin.firstCells ie.size n x')).run P w := by
  have h0 : ts[0]? = some tS := by rw [← Array.getElem?_toList, hts]; rfl
  have h1 : ts[1]? = some tX := by rw [← Array.getElem?_toList, hts]; rfl
  subst hs'
  cases dX
  case int => simp [isInt] at hni
  all_goals
    unfold Builtin.append_ appendTail
    simp only [h0, h1, List.getElem?_toArray, List.getElem?_cons_zero, List.getElem?_cons_succ, Sem.run_bind, run_underlying hu, Result.andThen_ok, run_sizeOf' hie, run_underlying hx, Sem.run_pure,
      Bool.false_eq_true, if_false, hlen, Bool.not_false, if_true, false_or]
    rfl

theorem append_tailZ {ts : Array TypeId} {ty tS tX elem : TypeId} {s' : Value} {base' : Option Addr} {sLen sCap' n : Nat} {ie : TypeInfo} {z : Value} (hts : ts.toList = [tS, tX])
    (hs' : s' = .slice base' sLen sCap') (hu : P.underlying tS = some (.slice elem)) (hie : P.info? elem = some ie) (hx : P.underlying tX = some (.int .i64)) (hn : n ≤ 9223372036854775807) (hb : n * ie.bytes ≤ 281474976710656) :
    (Builtin.append_ ts ty ⟨[s', .int .i64 (n : Int)]⟩).run P w = (appendTail elem ie.size sLen sCap' n s' base' (.int .i64 (n : Int)) true (if n * ie.size = 0 then pure #[] else do pure (Builtin.zeroCells (← zeroValue elem).cells n))).run P w := by
  have h0 : ts[0]? = some tS := by rw [← Array.getElem?_toList, hts]; rfl
  have h1 : ts[1]? = some tX := by rw [← Array.getElem?_toList, hts]; rfl
  subst hs'
  have w1 := wrap_nat hn
  have hb' : ¬ ((n : Int) * (ie.bytes : Int) > 2 ^ 48) := by
    rw [show (2 : Int) ^ 48 = 281474976710656 by decide]
    have : ((n * ie.bytes : Nat) : Int) ≤ 281474976710656 := by omega
    rw [Int.natCast_mul] at this
    omega
  have hn0 : ¬ ((n : Int) < 0) := by omega
  unfold Builtin.append_ appendTail
  simp only [h0, h1, List.getElem?_toArray, List.getElem?_cons_zero, List.getElem?_cons_succ, Sem.run_bind, run_underlying hu, Result.andThen_ok, run_sizeOf' hie, run_underlying hx, Sem.run_pure, if_true, asInt, asIntOf, w1]
  rw [if_neg hn0]
  simp only [Sem.run_bind, run_typeInfo' hie, Result.andThen_ok]
  rw [if_neg hb']
  simp only [Sem.run_bind, Sem.run_pure, Result.andThen_ok, Int.toNat_natCast, Bool.not_true, Bool.false_eq_true, if_false]
  rfl

theorem append_ok (H : HRel B0 w0 φ h w) {ts : Array TypeId} {ty : TypeId} {args args' : List Value} {v : Value} (ha : LRel φ args args') (hr : appendB P h ts args = some (v, h')) : Out B0 w0 φ (Builtin.append_ ts ty ⟨args'⟩) P w v h' := by
  unfold appendB at hr
  split at hr
  · rename_i tS tX s x hts
    obtain ⟨s', a2, rfl, hs, ha2⟩ := ha.cons_left
    obtain ⟨x', a3, rfl, hx, ha3⟩ := ha2.cons_left
    cases ha3.nil_left
    split at hr
    · rename_i ti tj hti htj
      obtain ⟨it, hit, hut, -⟩ := tiOf_ok hti
      obtain ⟨ij, hij, huj, -⟩ := tiOf_ok htj
      split at hr
      · rename_i elem hdu
        rw [hdu] at hut
        split at hr
        · rename_i te hte
          obtain ⟨ie, hie, hue, _, hsz, hby, hz⟩ := tiOf_ok hte
          have hslice : ∃ base' sLen sCap', s' = .slice base' sLen sCap' := by
            have : ∃ b l c, s = .slice b l c := by
              have aux : ∀ {n : Nat} {new : List Value} {r}, appendV P h elem s n new = some r → ∃ b l c, s = .slice b l c := by
                intro n new r hh
                unfold appendV at hh
                split at hh
                · exact ⟨_, _, _, rfl⟩
                · cases hh
              repeat' split at hr
              all_goals first | exact aux hr | cases hr
            obtain ⟨b, l, c, rfl⟩ := this
            cases hs with
            | sliceN => exact ⟨_, _, _, rfl⟩
            | slice => exact ⟨_, _, _, rfl⟩
          obtain ⟨base', sLen, sCap', hs'⟩ := hslice
          split at hr
          · rename_i hni
            split at hr
            · rename_i n c
              cases hx.sliceN_inv
              split at hr
              · rename_i hb
                have := beq_true hb; subst this
                unfold Out
                rw [append_tail hts hs' hut hie huj hni (n := 0) rfl]
                exact appendTail_ok H hs hs' hie ⟨rfl, rfl⟩ L2.nil hr
              · cases hr
            · rename_i i off n c
              obtain ⟨_, b, σ, κ, a', hp, hσ, ho, rfl⟩ := hx.slice_inv
              split at hr
              · rename_i l hl
                unfold Out
                rw [append_tail hts hs' hut hie huj hni (n := n) rfl]
                obtain ⟨l', hlr, hlen, hrun⟩ := loadCells_ok (P := P) H hp hl
                obtain ⟨l2, hlr2, hlen2, hrun2⟩ := loadCells_ok (P := P) H.drew hp hl
                have e2 : l2 = l' := by
                  have h1 : (loadCells ⟨b, off - σ, none⟩ (n * te.size)).run P w.drew = .ok ⟨l'⟩ w.drew := by
                    obtain ⟨hl3, _, l3, hlr3, hc3⟩ := H.rdN hp hl
                    have r1 := run_loadCells_list (P := P) w ⟨b, off - σ, none⟩ l3 (fun j v hv => by rw [Addr.add_lit]; exact hc3 j v hv)
                    have r2 := run_loadCells_list (P := P) w.drew ⟨b, off - σ, none⟩ l3 (fun j v hv => by rw [Addr.add_lit]; exact hc3 j v hv)
                    rw [← hlr3.1, hl3] at r1 r2
                    rw [hrun] at r1
                    cases r1
                    exact r2
                  rw [hrun2] at h1
                  cases h1; rfl
                subst e2
                refine appendTail_ok H hs hs' hie ⟨?_, ?_⟩ hlr hr
                · simp only [Builtin.firstCells, ← hsz]
                  rcases ho with h | ⟨h1, _⟩
                  · rw [h]; exact hrun
                  · subst h1
                    have : l2 = [] := List.eq_nil_of_length_eq_zero (by simpa using hlen)
                    subst this; simp [loadCells, loadCellsFrom]
                · simp only [Builtin.firstCells, ← hsz]
                  rcases ho with h | ⟨h1, _⟩
                  · rw [h]; exact hrun2
                  · subst h1
                    have : l2 = [] := List.eq_nil_of_length_eq_zero (by simpa using hlen)
                    subst this; simp [loadCells, loadCellsFrom]
              · cases hr
            · rename_i b
              cases hx.string_inv
              unfold Out
              rw [append_tail hts hs' hut hie huj hni (n := b.size) rfl]
              have hc : ((b.extract 0 b.size).data.map fun b => Value.int .u8 (b.toNat : Int)) = ⟨ofBytes b.data.toList⟩ := by
                apply Array.ext'
                simp [ofBytes, ByteArray.data_extract]
              exact appendTail_ok H hs hs' hie ⟨by simp only [Builtin.firstCells, Sem.run_pure, hc], by simp only [Builtin.firstCells, Sem.run_pure, hc]⟩ (ofBytes_rel _) hr
            · cases hr
          · split at hr
            · rename_i n z hzz hju
              cases hx.int_inv
              obtain ⟨hz1, hz2, hz3⟩ := hz z hzz
              rw [hju] at huj
              split at hr
              · rename_i hb
                simp only [Bool.and_eq_true] at hb
                have b1 := ble_true hb.1
                have b2 := ble_true hb.2
                unfold Out
                rw [show (Value.int .i64 (Int.ofNat n)) = .int .i64 (n : Int) from rfl, append_tailZ (z := z) hts hs' hut hie huj b2 (by rw [← hby]; exact b1)]
                have app : ∀ w : World, ((if n * ie.size = 0 then pure #[] else do pure (Builtin.zeroCells (← zeroValue elem).cells n) : Sem (Array Value))).run P w = .ok ⟨rep z.cells.toList n⟩ w := by
                  intro w
                  split
                  · rename_i h0
                    have : rep z.cells.toList n = [] := List.eq_nil_of_length_eq_zero (by rw [rep_length]; simp [hz3, hsz, h0])
                    rw [this]
                    rfl
                  · simp only [Sem.run_bind, run_zeroValue' hie hz1, Result.andThen_ok, Sem.run_pure]
                    unfold Builtin.zeroCells
                    rw [rep_range]
                exact appendTail_ok H hs hs' hie ⟨app _, app _⟩ (rep_flat hz2 n) hr
              · cases hr
            · cases hr
        · cases hr
      · cases hr
    · cases hr
  · cases hr

theorem run_loadBytesI (w : World) : ∀ (ns : List Int) (a : Addr) (acc : ByteArray), (∀ (j : Nat) x, ns[j]? = some x → w.cell? (a.add j) = some (.int .u8 x)) →
    (loadBytes a acc ns.length).run P w = .ok ⟨acc.data ++ (ns.map fun n => UInt8.ofNat n.toNat).toArray⟩ w
  | [], a, acc, _ => by simp [loadBytes]
  | x :: l, a, acc, h => by
    have h0 : w.cell? a = some (.int .u8 x) := by
      have := h 0 x rfl
      simpa [Addr.add] using this
    have ih := run_loadBytesI w l (a.add 1) (acc.push (UInt8.ofNat x.toNat)) (fun j y hy => by
      have := h (j + 1) y (by simpa using hy)
      have e : (a.add 1).add j = a.add (j + 1) := by
        unfold Addr.add
        by_cases hj : j = 0
        · subst hj; simp
        · simp [hj]; omega
      rw [e]; exact this)
    have hx : x.toNat.toUInt8 = UInt8.ofNat x.toNat := rfl
    simp only [List.length_cons, loadBytes, Sem.run_bind, run_load, h0, Result.andThen, hx]
    rw [ih]
    congr 1
    apply ByteArray.ext
    simp [ByteArray.push]
theorem run_unsafeStringI (w : World) (pt it ty e : TypeId) (hp : P.underlying pt = some (.pointer e)) (hc : P.cellsOf e = 1) (g cells : Nat) (hsh : w.shape? g = some (e, cells)) (l : List Int) (h0 : l ≠ []) (hn : l.length ≤ cells) (h63 : l.length ≤ 9223372036854775807)
    (hcell : ∀ (j : Nat) x, l[j]? = some x → w.cell? ((⟨g, 0, none⟩ : Addr).add j) = some (.int .u8 x)) :
    (Builtin.unsafeString_ #[pt, it] ty #[.pointer (some ⟨g, 0, none⟩), .int .i64 l.length]).run P w = .ok (.string ⟨⟨l.map fun n => UInt8.ofNat n.toNat⟩⟩) (w.freeze ⟨g, 0, none⟩ l.length) := by
  have hl : l.length ≠ 0 := by simpa using h0
  have hlb := run_loadBytesI (P := P) w l ⟨g, 0, none⟩ .empty hcell
  have hlies := Lib.liesAt_bytes (P := P) hc (cells / P.cellsOf e) l.length (by rw [hc]; simpa using hn)
  have h63' : ¬ (9223372036854775807 : Int) < (l.length : Int) := by omega
  have hdef : Builtin.unsafeString_ #[pt, it] ty #[.pointer (some ⟨g, 0, none⟩), .int .i64 l.length] =
      (do
        let n ← asInt (.int .i64 l.length)
        if n < 0 then runtimePanic (.error "unsafe.String: len out of range")
        if n > IntKind.i64.max then unsupported (.unsafePointer "String: a length above the largest int")
        if n = 0 then pure (.string .empty)
        else if ← variablesAt ⟨g, 0, none⟩ (← elemOf pt) n.toNat then do
          let s ← loadBytes ⟨g, 0, none⟩ .empty n.toNat
          freeze ⟨g, 0, none⟩ n.toNat
          pure (.string s)
        else unsupported (.unsafePointer "String: not so many bytes at ptr")) := rfl
  rw [hdef]
  have hmax : IntKind.i64.max = 9223372036854775807 := rfl
  have hneg : ¬ (l.length : Int) < 0 := by omega
  simp [asInt, asIntOf, hmax, h63', hneg, hl, variablesAt, hsh, elemOf, run_underlying hp, hlies, hlb]
theorem ustr_ok (H : HRel B0 w0 φ h w) {ts : Array TypeId} {ty : TypeId} {args args' : List Value} {v : Value} (ha : LRel φ args args') (hr : ustrB P h ts args = some (v, h')) : Out B0 w0 φ (Builtin.unsafeString_ ts ty ⟨args'⟩) P w v h' := by
  unfold ustrB at hr
  split at hr
  · rename_i pt it p n hts
    have hts : ts = #[pt, it] := by rw [← Array.toList_inj]; exact hts
    subst hts
    obtain ⟨x1, t1, rfl, hx, ht1⟩ := L2.cons_left ha
    obtain ⟨x2, t2, rfl, hy, ht2⟩ := L2.cons_left ht1
    cases ht2.nil_left
    cases hy.int_inv
    split at hr
    · rename_i hn0
      have hn0 := beq_true hn0
      subst hn0
      simp only [Option.some.injEq, Prod.mk.injEq] at hr
      obtain ⟨rfl, rfl⟩ := hr
      refine ⟨φ, .string .empty, w, ?_, φ.le_refl, .string _, H⟩
      cases hx with
      | ptrN => exact Lib.run_unsafeString_none w pt it ty none
      | ptr h1 h2 => exact Lib.run_unsafeString_none w pt it ty _
    · rename_i hn0
      split at hr
      · rename_i i off hn63
        split at hr
        · rename_i ti t hoff hti hty
          have hoff := beq_true hoff
          subst hoff
          split at hr
          · rename_i e hund
            split at hr
            · rename_i te hte0 hte
              have hte0 := beq_true hte0
              subst hte0
              split at hr
              · rename_i l hsz hl
                have hsz := beq_true hsz
                split at hr
                · rename_i bs h2 hbs hfg
                  simp only [Option.some.injEq, Prod.mk.injEq] at hr
                  obtain ⟨rfl, rfl⟩ := hr
                  obtain ⟨it2, hit2, hut, -⟩ := tiOf_ok hti
                  rw [hund] at hut
                  obtain ⟨ie, hie, _, _, hszE, _⟩ := tiOf_ok hte
                  have hcE : P.cellsOf t = 1 := by unfold Program.cellsOf; rw [hie]; simp [← hszE, hsz]
                  cases hx with
                  | ptr hp hσ =>
                    rename_i b σ κ
                    have hσ : σ = 0 := by omega
                    subst hσ
                    obtain ⟨hlen, -, l', hll, hcells⟩ := H.rdN hp hl
                    obtain ⟨ns, rfl, rfl⟩ := bytesV_ok hbs
                    have hl' := LRel_ints hll
                    subst hl'
                    have hnn : ns.length = n := by simpa using hlen
                    obtain ⟨hlt, hblk⟩ := H.ty.1 i t hty
                    obtain ⟨c, fz, hblk⟩ := hblk b 0 κ hp
                    have hn1 : n ≠ 0 := by intro e; subst e; simp at hn0
                    have hcell : ∀ (j : Nat) x, ns[j]? = some x → w.cell? ((⟨b, 0, none⟩ : Addr).add j) = some (.int .u8 x) := by
                      intro j x hj
                      have := hcells j (.int .u8 x) (by rw [List.getElem?_map, hj]; rfl)
                      rw [Addr.add_lit]
                      simpa using this
                    have hsize : ns.length ≤ c.size := by
                      rcases Nat.lt_or_ge c.size ns.length with hlt2 | hge
                      · have := hcell c.size ns[c.size] (List.getElem?_eq_getElem hlt2)
                        rw [Addr.add_lit] at this
                        simp only [World.cell?, hblk] at this
                        simp at this
                      · exact hge
                    have hrun := run_unsafeStringI (P := P) w pt it ty t hut hcE b c.size (by simp [World.shape?, hblk]) ns (by intro e; rw [e] at hnn; simp at hnn; omega) hsize (by rw [hnn]; exact ble_true hn63) hcell
                    rw [hnn] at hrun
                    refine ⟨φ, _, _, ?_, φ.le_refl, .string _, H.forget (a := ⟨b, 0, none⟩) hp hfg rfl n⟩
                    exact hrun
                · cases hr
              · cases hr
            · cases hr
          · cases hr
        · cases hr
      · cases hr
  · cases hr

theorem builtinA_ok (H : HRel B0 w0 φ h w) {b : Builtin} {ts : Array TypeId} {ty : TypeId} {cs : Array Bool} {args args' : List Value} {v : Value} (ha : LRel φ args args') (hr : builtinA P h b ts args = some (v, h')) :
    ∃ ψ v' w', (builtin b ts ty cs ⟨args'⟩).run P w = .ok (.value v') w' ∧ φ.le ψ ∧ VRel ψ v v' ∧ HRel B0 w0 ψ h' w' := by
  unfold builtinA at hr
  split at hr
  · obtain ⟨ψ, v', w', h1, h2⟩ := append_ok (P := P) (ty := ty) H ha hr
    exact ⟨ψ, v', w', by simp only [builtin, Sem.run_bind, h1, Result.andThen_ok, Sem.run_pure], h2⟩
  · obtain ⟨ψ, v', w', h1, h2⟩ := copy_ok (P := P) (ty := ty) H ha hr
    exact ⟨ψ, v', w', by simp only [builtin, Sem.run_bind, h1, Result.andThen_ok, Sem.run_pure], h2⟩
  · obtain ⟨ψ, v', w', h1, h2⟩ := delete_ok (P := P) (ty := ty) H ha hr
    exact ⟨ψ, v', w', by simp only [builtin, Sem.run_bind, h1, Result.andThen_ok, Sem.run_pure], h2⟩
  · obtain ⟨ψ, v', w', h1, h2⟩ := clear_ok (P := P) (ty := ty) H ha hr
    exact ⟨ψ, v', w', by simp only [builtin, Sem.run_bind, h1, Result.andThen_ok, Sem.run_pure], h2⟩
  · obtain ⟨ψ, v', w', h1, h2⟩ := ustr_ok (P := P) (ty := ty) H ha hr
    exact ⟨ψ, v', w', by simp only [builtin, Sem.run_bind, h1, Result.andThen_ok, Sem.run_pure], h2⟩
  · cases hr

/-- What the model's operation ends in: a value, or nothing (then the slot holds 'undef'). -/
def Gives (s : Sem Next) (P : Program) (w : World) (v' : Value) (w' : World) : Prop := s.run P w = .ok (.value v') w' ∨ (v' = undef ∧ s.run P w = .ok .skip w')

theorem execOp_buildSlice (ρ : Operand → Value) (dst : Option Tmp) (t : TypeId) (len : Nat) (parts : Array (Nat × Operand)) (type : TypeId) (pos : String) (after : Array Edge) (guard : Option (Nat × Bool)) :
    execOp ρ ⟨dst, .buildSlice t len parts, type, pos, after, guard⟩ = (do pure (Next.value (← Instr.buildSlice t len (parts.map fun p => (p.1, ρ p.2)))) : Sem Next) := by
  have h : parts.map (fun p => (p.1, ρ p.2)) = parts.map (fun (i, x) => (i, ρ x)) := rfl
  rw [h]
  rfl

/-- What only makes a new object, whatever the world. -/
theorem new_run {F : Fr} {ρ : Operand → Value} {o : Oper} {v : Value} (hnew : (∃ t, o.op = .alloc t) ∨ ∃ t len parts, o.op = .buildSlice t len parts) (hv : Rev φ F ρ o.op.operands.toList) (hr : opA P F h o.op = some (v, h')) :
    ∃ i h1 cells cells' e, ∃ f : Nat → Value, h.newVar cells = some (i, h1) ∧ (h' = h1 ∨ h' = h1.tag i e) ∧ LRel φ cells cells' ∧ (∀ (ψ : Map) b, ψ i = some (b, 0, 0) → VRel ψ v (f b)) ∧
      ∀ w, (execOp ρ o).run P w = .ok (.value (f w.heap.size)) (w.alloc (.cells ⟨cells'⟩ e)) := by
  obtain ⟨dst, op, type, pos, after, guard⟩ := o
  simp only at hv hr hnew
  rcases hnew with ⟨t, rfl⟩ | ⟨t, len, parts, rfl⟩
  · simp only [opA] at hr
    split at hr
    · rename_i ti ht
      split at hr
      · rename_i z hz
        split at hr
        · rename_i i h2 hn
          simp only [Option.some.injEq, Prod.mk.injEq] at hr
          obtain ⟨rfl, rfl⟩ := hr
          obtain ⟨it, hit, hut, _, _, _, hzz⟩ := tiOf_ok ht
          obtain ⟨hz1, hz2, hz3⟩ := hzz z hz
          refine ⟨i, _, _, z.cells.toList, t, fun b => .pointer (some ⟨b, 0, none⟩), hn, by split <;> simp, (flat_rel hz2).cells, fun ψ b hb => VRel.ptr hb (Nat.zero_le _), fun w => ?_⟩
          have hex : execOp ρ ⟨dst, .alloc t, type, pos, after, guard⟩ = (do pure (Next.value (← Instr.alloc t true (.tuple #[]))) : Sem Next) := rfl
          rw [hex]
          simp only [Instr.alloc, Sem.run_bind, run_zeroValue' hit hz1, Result.andThen_ok, run_newVar', Sem.run_pure]
        · cases hr
      · cases hr
    · cases hr
  · simp only [opA] at hr
    have hp : L2 (fun (p q : Nat × Value) => p.1 = q.1 ∧ VRel φ p.2 q.2) (parts.toList.map fun p => (p.1, F.ev p.2)) (parts.map fun p => (p.1, ρ p.2)).toList := by
      rw [Array.toList_map]
      exact hv.pairs (fun p hp => by simp only [Op.operands]; simp; exact ⟨p.1, by simpa using hp⟩)
    obtain ⟨i, cells, cells', e, hn, hl, hvv, hrun⟩ := buildSlice_run (P := P) hp hr
    refine ⟨i, _, cells, cells', e, fun b => .slice (some ⟨b, 0, none⟩) len (len + 0), hn, .inl rfl, hl, hvv, fun w => ?_⟩
    rw [execOp_buildSlice]
    simp only [Sem.run_bind, hrun, Result.andThen_ok, Sem.run_pure]

set_option maxHeartbeats 1000000 in
theorem mapNil_inv {y : Value} (h : VRel φ (.map none) y) : y = .map none := by cases h; rfl
set_option maxHeartbeats 1000000 in
theorem opA_ok (H : HRel B0 w0 φ h w) {F : Fr} {ρ : Operand → Value} {o : Oper} {v : Value} (hv : Rev φ F ρ o.op.operands.toList) (hr : opA P F h o.op = some (v, h')) :
    ∃ ψ v' w', Gives (execOp ρ o) P w v' w' ∧ φ.le ψ ∧ VRel ψ v v' ∧ HRel B0 w0 ψ h' w' := by
  obtain ⟨dst, op, type, pos, after, guard⟩ := o
  simp only at hv hr
  have Q : ∀ (s : Sem Value), execOp ρ ⟨dst, op, type, pos, after, guard⟩ = (do pure (Next.value (← s)) : Sem Next) → Out B0 w0 φ s P w v h' →
      ∃ ψ v' w', Gives (execOp ρ ⟨dst, op, type, pos, after, guard⟩) P w v' w' ∧ φ.le ψ ∧ VRel ψ v v' ∧ HRel B0 w0 ψ h' w' := by
    rintro s hs ⟨ψ, v', w', h1, h2⟩
    rw [hs]
    exact ⟨ψ, v', w', .inl (by simp only [Sem.run_bind, h1, Result.andThen_ok, Sem.run_pure]), h2⟩
  unfold opA at hr
  split at hr
  · rename_i t
    split at hr
    · rename_i ti ht
      split at hr
      · rename_i z hz
        split at hr
        · rename_i i h2 hn
          simp only [Option.some.injEq, Prod.mk.injEq] at hr
          obtain ⟨rfl, rfl⟩ := hr
          exact Q (Instr.alloc t true (.tuple #[])) rfl (alloc_ok H ht hz hn)
        · cases hr
      · cases hr
    · cases hr
  · rename_i t x
    split at hr
    · rename_i i h2 hn
      simp only [Option.some.injEq, Prod.mk.injEq] at hr
      obtain ⟨rfl, rfl⟩ := hr
      exact Q (Instr.box t (ρ x)) rfl (box_ok H (hv x (by simp [Op.operands])) hn)
    · cases hr
  · rename_i t len parts
    have hp : L2 (fun (p q : Nat × Value) => p.1 = q.1 ∧ VRel φ p.2 q.2) (parts.toList.map fun p => (p.1, F.ev p.2)) (parts.map fun p => (p.1, ρ p.2)).toList := by
      rw [Array.toList_map]
      exact hv.pairs (fun p hp => by simp only [Op.operands]; simp; exact ⟨p.1, by simpa using hp⟩)
    have ho := buildSlice_ok (P := P) H hp hr
    have Q2 := Q (Instr.buildSlice t len (parts.map fun p => (p.1, ρ p.2))) (execOp_buildSlice ..)
    exact Q2 ho
  · rename_i t a x
    split at hr
    · rename_i h2 hs
      simp only [Option.some.injEq, Prod.mk.injEq] at hr
      obtain ⟨rfl, rfl⟩ := hr
      obtain ⟨w', h1, h3⟩ := storeV_ok (P := P) H (hv a (by simp [Op.operands])) (hv x (by simp [Op.operands])) hs
      exact ⟨φ, undef, w', .inr ⟨rfl, by simp only [execOp, Sem.run_bind, h1, Result.andThen_ok, Sem.run_pure]⟩, φ.le_refl, VRel.undef, h3⟩
    · cases hr
  · rename_i s d x
    exact Q (convert s d (ρ x)) rfl (convA_ok H (hv x (by simp [Op.operands])) hr)
  · rename_i t
    simp only [Option.some.injEq, Prod.mk.injEq] at hr
    obtain ⟨rfl, rfl⟩ := hr
    obtain ⟨ψ, h1, h2, h3⟩ := H.newMap
    refine Q (Instr.makeMap t none) rfl ⟨ψ, .map (some w.heap.size), _, ?_, h1, .map h2, h3⟩
    simp [Instr.makeMap]
  · rename_i t x
    split at hr
    · rename_i ti k n ht hx
      obtain ⟨it, hit, hut, -⟩ := tiOf_ok ht
      split at hr
      · rename_i kt et hd
        rw [hd] at hut
        simp only [Option.some.injEq, Prod.mk.injEq] at hr
        obtain ⟨rfl, rfl⟩ := hr
        obtain ⟨ψ, h1, h2, h3⟩ := H.newMap
        have hxr := hv x (by simp [Op.operands])
        rw [hx] at hxr
        refine Q (Instr.makeMap t (some (ρ x))) rfl ⟨ψ, .map (some w.heap.size), _, ?_, h1, .map h2, h3⟩
        simp [Instr.makeMap, hxr.int_inv, run_underlying hut, asInt, asIntOf]
      · cases hr
    · cases hr
  · rename_i t l c
    exact Q (Instr.makeSlice t (ρ l) (ρ c)) rfl (makeSlice_ok H (hv l (by simp [Op.operands])) (hv c (by simp [Op.operands])) hr)
  · rename_i t x lo hi mx
    exact Q (Instr.sliceAt t (ρ x) (lo.map ρ) (hi.map ρ) (some (ρ mx))) rfl (sliceA_ok H (hv x (by simp [Op.operands])) (hv.opt (x := lo) (fun y hy => by subst hy; simp [Op.operands])) (hv.opt (x := hi) (fun y hy => by subst hy; simp [Op.operands])) (hv mx (by simp [Op.operands])) hr)
  · rename_i t m k x
    split at hr
    · rename_i h2 hs
      simp only [Option.some.injEq, Prod.mk.injEq] at hr
      obtain ⟨rfl, rfl⟩ := hr
      obtain ⟨w', h1, h3⟩ := mapUpd_ok (P := P) H (hv m (by simp [Op.operands])) (hv k (by simp [Op.operands])) (hv x (by simp [Op.operands])) hs
      exact ⟨φ, undef, w', .inr ⟨rfl, by simp only [execOp, Sem.run_bind, h1, Result.andThen_ok, Sem.run_pure]⟩, φ.le_refl, VRel.undef, h3⟩
    · cases hr
  · rename_i t m k x
    split at hr
    · rename_i h2 hs
      simp only [Option.some.injEq, Prod.mk.injEq] at hr
      obtain ⟨rfl, rfl⟩ := hr
      obtain ⟨w', h1, h3⟩ := mapUpd_ok (P := P) H (hv m (by simp [Op.operands])) (hv k (by simp [Op.operands])) (hv x (by simp [Op.operands])) hs
      exact ⟨φ, undef, w', .inr ⟨rfl, by simp only [execOp, Sem.run_bind, h1, Result.andThen_ok, Sem.run_pure]⟩, φ.le_refl, VRel.undef, h3⟩
    · cases hr
  · rename_i b args ats
    obtain ⟨ψ, v', w', h1, h2⟩ := builtinA_ok (P := P) (ty := type) (cs := args.map fun | .const _ => true | _ => false) H (hv.vals (m := args) (fun x hx => by simpa [Op.operands, Call.operands] using hx)) hr
    refine ⟨ψ, v', w', .inl ?_, h2⟩
    simp only [execOp, resolve, Sem.run_bind, Sem.run_pure, Result.andThen_ok, invoke]
    exact h1
  · rename_i t x
    split at hr
    · rename_i ti ht
      split at hr
      · rename_i k e hu hx
        simp only [Option.some.injEq, Prod.mk.injEq] at hr
        obtain ⟨rfl, rfl⟩ := hr
        obtain ⟨it, hit, hut, -⟩ := tiOf_ok ht
        rw [hu] at hut
        have hxr := hv x (by simp [Op.operands])
        rw [hx] at hxr
        obtain ⟨hle, H'⟩ := H.iter
        have hxe : ρ x = .map none := mapNil_inv hxr
        refine Q (Instr.range t (ρ x)) rfl ⟨_, .pointer (some ⟨w.heap.size, 0, none⟩), _, ?_, hle, VRel.ptr (off := 0) (Map.add_same _ _ _) (Nat.zero_le _), H'⟩
        simp only [Instr.range, hxe, Sem.run_bind, run_underlying hut, Result.andThen_ok, Sem.run_pure, run_newObj]
        rfl
      · cases hr
    · cases hr
  · rename_i it s
    split at hr
    · rename_i i hit
      split at hr
      · rename_i u hits
        simp only [Option.some.injEq, Prod.mk.injEq] at hr
        obtain ⟨rfl, rfl⟩ := hr
        have hxr := hv it (by simp [Op.operands])
        rw [hit] at hxr
        obtain ⟨_, b, σ, κ, hp, hσ, hx⟩ := hxr.ptr_inv
        have hb := (H.ty.2 i hits).2 b σ κ hp
        refine Q (Instr.next (ρ it) false type) rfl ⟨φ, .tuple #[.bool false], w, ?_, φ.le_refl, VRel.tuple' (L2.cons (.bool false) L2.nil), H⟩
        have h0 : 0 - σ = 0 := Nat.zero_sub σ
        rw [hx, h0]
        simp [Instr.next, getObj, Sem.run, hb]
      · cases hr
    · cases hr
  · cases hr

theorem opV_ok (H : HRel B0 w0 φ h w) {F : Fr} {ρ : Operand → Value} {o : Oper} {v : Value} (hv : Rev φ F ρ o.op.operands.toList) (hr : opV P F h o.op = some (v, h')) :
    ∃ ψ v' w', Gives (execOp ρ o) P w v' w' ∧ φ.le ψ ∧ VRel ψ v v' ∧ HRel B0 w0 ψ h' w' := by
  unfold opV at hr
  split at hr
  · rename_i v2 hq
    simp only [Option.some.injEq, Prod.mk.injEq] at hr
    obtain ⟨rfl, rfl⟩ := hr
    obtain ⟨v', h1, h2⟩ := opQ_ok H hv hq
    exact ⟨φ, v', w, .inl h1, φ.le_refl, h2, H⟩
  · exact opA_ok H hv hr

end Go.Abs
end

section
/- Deferred functions that only look whether there is a panic; a library function without a body. -/
open Go.RowKit
namespace Go.Abs
variable {P : Program}
theorem put_eval {a : Act} {t : Nat} {v : Value} (h : t < a.tmps.size) : (a.put (some t) v).eval (.tmp t) = v := by
  simp only [Act.put, Act.eval]
  rw [Array.getD_eq_getD_getElem?, Array.getElem?_setIfInBounds_self, if_pos h]
  rfl
theorem put_size (a : Act) (d : Option Tmp) (v : Value) : (a.put d v).tmps.size = a.tmps.size := by
  cases d <;> simp [Act.put]
theorem put_defs (a : Act) (d : Option Tmp) (v : Value) : (a.put d v).defers = a.defers := by cases d <;> rfl
theorem arr1 {α : Type} {r : Array α} {o : α} (h : r.toList = [o]) : r = #[o] := by
  obtain ⟨l⟩ := r; simp only at h; rw [h]
theorem wanted_none {o : Oper} (h : o.guard = none) (y : Nat → Option Bool) : Region.wanted o y = true := by unfold Region.wanted; rw [h]
theorem opsS_rec {Q : Exit → Act → List Frame → World → Prop} {a : Act} {cs : List Frame} {w : World} {o : Oper} (hg : o.guard = none) (hx : (execOp a.eval o).run P w = .ok .recover w) (hrec : recoverD cs = none) (H : Q .normal (a.put o.dst .nilIface) cs w) : wpOpsS P #[o] Q (List.range (#[o] : Array Oper).size) a cs w := by
  show wpOpsS P #[o] Q [0] a cs w
  have h0 : (#[o] : Array Oper)[0]? = some o := rfl
  simp only [wpOpsS, h0]
  rw [if_pos (wanted_none hg _), hx]
  simp only [hrec]
  exact H
theorem ops_val {Q : Exit → Act → World → Prop} {a : Act} {w : World} {o : Oper} {v : Value} (hg : o.guard = none) (hx : (execOp a.eval o).run P w = .ok (.value v) w) (H : Q .normal (a.put o.dst v) w) : wpOps P #[o] Q (List.range (#[o] : Array Oper).size) a w := by
  show wpOps P #[o] Q [0] a w
  have h0 : (#[o] : Array Oper)[0]? = some o := rfl
  simp only [wpOps, h0]
  rw [if_pos (wanted_none hg _)]
  refine .inl ?_
  unfold Oper.wp
  rw [hx, Oper.upon_value]
  exact H
/-- It returns, and turns nothing. -/
theorem guard_calls {g : FuncId} (hg : guardFn P g = true) (args : Array Value) (w : World) :
    CallsD P g args .returning w fun e u' w' => e = .returned (.tuple #[]) ∧ u' = .returning ∧ w' = w := by
  unfold guardFn at hg
  split at hg
  rotate_left
  · cases hg
  rename_i fn hfn
  split at hg
  rotate_left
  · cases hg
  rename_i c0 i0 r0 ib i1 r1 c i2 r2 els hb hres
  split at hg
  rotate_left
  · cases hg
  rename_i t a0 at0 ty0 po0 af0 b ty a tyy ty1 po1 af1 d2 x2 ty2 po2 af2 h0 h1 h2
  simp only [Bool.and_eq_true] at hg
  obtain ⟨⟨⟨⟨⟨e1, e2⟩, e3⟩, e4⟩, _⟩, e5⟩ := hg
  have e1 : t = a := Nat.eq_of_beq_eq_true e1
  have e2 : b = c := Nat.eq_of_beq_eq_true e2
  subst e1 e2
  have e3 : t < fn.ntmps := Nat.lt_of_lt_of_le (Nat.lt_succ_self _) (Nat.le_of_ble_eq_true e3)
  have e4 : b < fn.ntmps := Nat.lt_of_lt_of_le (Nat.lt_succ_self _) (Nat.le_of_ble_eq_true e4)
  have hbin : binV P .eql ty true .nilIface .nilIface = some (.bool true) := by
    split at e5
    · rename_i h; exact h
    · cases e5
  refine callsD_of_wpS hfn hb fun c₀ cs hu => ?_
  have hsz : ∀ x, x < fn.ntmps → x < (args ++ Array.replicate (fn.ntmps - args.size) undef).size := fun x hx => by simp; omega
  generalize (args ++ Array.replicate (fn.ntmps - args.size) undef) = tm at hsz
  refine wpS_seq (wpS_region ?_)
  rw [arr1 h0]
  have hrec : recoverD (c₀ :: cs) = none := by simp [recoverD, hu]
  refine opsS_rec rfl rfl hrec ?_
  show (Code.block ib _).wpS P _ _ _ _
  refine wpS_of_wp (wp_block (wp_seq (wp_region ?_)))
  rw [arr1 h1]
  have ht : t < tm.size := hsz t e3
  have hb1 : (Act.put { tmps := tm, defers := [] } (some t) Value.nilIface).eval (.tmp t) = .nilIface := put_eval ht
  have hsz1 := put_size { tmps := tm, defers := [] } (some t) Value.nilIface
  have hdf1 := put_defs { tmps := tm, defers := [] } (some t) Value.nilIface
  generalize hA : (Act.put { tmps := tm, defers := [] } (some t) Value.nilIface) = a1 at hb1 hsz1 hdf1
  have hA : Act.put { tmps := tm, defers := [] } (some t) Value.nilIface = a1 := hA
  refine ops_val rfl (v := .bool true) ?_ ?_
  · have := (binV_ok (P := P) (w := w) (φ := fun _ => none) (o1 := .tmp t) (o2 := .const .nilIface) (x := .nilIface) (y := .nilIface) (x' := a1.eval (.tmp t)) (y' := a1.eval (.const .nilIface)) (by rw [hb1]; exact .nilIface) .nilIface (v := .bool true) hbin).1
    have Q : ∀ {s : Sem Value} {v'}, s.run P w = .ok v' w → (do pure (Next.value (← s)) : Sem Next).run P w = .ok (.value v') w := fun hs => by
      simp only [Sem.run_bind, hs, Result.andThen_ok, Sem.run_pure]
    exact Q this
  · have hb : b < a1.tmps.size := by rw [hsz1]; exact hsz b e4
    have hb2 : (a1.put (some b) (.bool true)).eval (.tmp b) = .bool true := put_eval hb
    have hdf2 := put_defs a1 (some b) (.bool true)
    show (Code.cond (.tmp b) (.region i2 r2 false) els).wp P _ (a1.put (some b) (.bool true)) w
    refine wp_cond_true hb2 (wp_region ?_)
    rw [arr1 h2]
    refine ops_val (v := (a1.put (some b) (.bool true)).eval x2) rfl rfl ?_
    refine ⟨by rw [put_defs, hdf2, hdf1], .returning, by rw [← hu], .tuple #[], ?_, rfl, rfl, rfl⟩
    have : fn.results = #[] := by
      have := hres
      cases h : fn.results with
      | mk l => rw [h] at this; simp only at this; rw [this]
    exact results_none this _ _ _
/-- Deferred calls that turn nothing. -/
def GuardD (P : Program) (d : Deferred) : Prop := ∃ g cap, d.target = .fn (.func g) cap ∧ guardFn P g = true
def GrdLe (P : Program) (new old : List Deferred) : Prop := ∃ ds, new = ds ++ old ∧ ∀ d, d ∈ ds → GuardD P d
theorem GrdLe.of_eq {x y : List Deferred} (h : x = y) : GrdLe P x y := ⟨[], h, fun _ h => by simp at h⟩
theorem GrdLe.refl {x : List Deferred} : GrdLe P x x := .of_eq rfl
theorem GrdLe.trans {x y z : List Deferred} (h : GrdLe P x y) (k : GrdLe P y z) : GrdLe P x z := by
  obtain ⟨a, rfl, ha⟩ := h
  obtain ⟨b, rfl, hb⟩ := k
  exact ⟨a ++ b, by simp, fun d hd => (List.mem_append.1 hd).elim (ha d) (hb d)⟩
theorem guard_name {g : FuncId} (hg : guardFn P g = true) : ∃ fn, P.funcs[g]? = some fn ∧ (fn.name == "runtime.NumGoroutine") = false ∧ fn.body.isNone = false := by
  unfold guardFn at hg
  split at hg
  rotate_left
  · cases hg
  rename_i fn hfn
  split at hg
  rotate_left
  · cases hg
  rename_i hb hres
  split at hg
  rotate_left
  · cases hg
  simp only [Bool.and_eq_true, Bool.not_eq_true'] at hg
  exact ⟨fn, hfn, hg.1.2, by rw [hb]; rfl⟩
/-! A frame's way out past deferred calls that turn nothing, and past the marks of loops over functions in whose rounds nothing was deferred. -/
def LeavesX (P : Program) (fn : Func) (tmps : Array Value) (R : Ending → World → Prop) : List Deferred → FrameMode → World → Prop
  | [], u, w => Leaves P fn tmps R [] u w
  | d :: ds, u, w => u ≠ .run ∧
      ((∃ r w', d.target = .collected r ∧ (Instr.takeDeferred r).run P w = .ok [] w' ∧ LeavesX P fn tmps R ds u w') ∨
       (∃ fv cap f args, d.target = .fn fv cap ∧ (invoke d.target d.args).run P w = .ok (.enter f args) w ∧
        CallsD P f args u w fun
          | .returned _, u', w' => LeavesX P fn tmps R ds (settle u') w'
          | .panicked chain, u', w' => LeavesX P fn tmps R ds (raised u' chain) w'
          | .outgrown, _, w' => R .outgrown w'))
theorem leavesX_steps {fn : Func} {tmps : Array Value} {R : Ending → World → Prop} : ∀ (ds : List Deferred) (u : FrameMode) (w : World) (fr : Frame)
    (cs : List Frame), fr.mode = u → fr.defers = ds → fr.tmps = tmps → P.funcs[fr.fn]? = some fn → fr.kind = .normal → LeavesX P fn tmps R ds u w →
    ∃ e w' fr', R e w' ∧ Comes P (lone fr cs w) (lone fr' cs w') e ∧ fr'.fn = fr.fn ∧ fr'.leaving P w' e := by
  intro ds
  induction ds with
  | nil => exact fun u w fr cs hu hd ht hf hk h => leaves_steps [] u w fr cs hu hd ht hf hk h
  | cons d ds ih =>
    intro u w fr cs hu hd ht hf hk h
    obtain ⟨hrun, h⟩ := h
    rcases h with ⟨r, w', htar, htake, hrest⟩ | ⟨fv, cap, f, args, htar, hinv, hcall⟩
    · have h1 := step_collected (cs := cs) (hu ▸ hrun) hd htar htake
      obtain ⟨e', w'', fr', hR', hs', hfn', hl'⟩ := ih u w' { fr with defers := [] ++ ds } cs hu rfl ht hf hk hrest
      exact ⟨e', w'', fr', hR', Comes.of_steps (.one h1) hs', hfn', hl'⟩
    · have h1 := step_defer (cs := cs) (hu ▸ hrun) hd htar hinv
      obtain ⟨e, u', w', frX, hR, hsteps, hkX, hgo⟩ := hcall { fr with defers := ds } cs hu
      cases e with
      | returned v =>
        have h2 := step_going_returned (c := { { fr with defers := ds } with mode := u' }) (cs := cs) hkX hgo
        obtain ⟨e', w'', fr', hR', hs', hfn', hl'⟩ := ih (settle u') w' { { { fr with defers := ds } with mode := u' } with mode := settle u' } cs rfl rfl ht hf hk hR
        exact ⟨e', w'', fr', hR', Comes.of_steps (.head h1 (Steps.trans hsteps (.one h2))) hs', hfn', hl'⟩
      | panicked chain =>
        have h2 := step_going_panicked (c := { { fr with defers := ds } with mode := u' }) (cs := cs) hgo
        obtain ⟨e', w'', fr', hR', hs', hfn', hl'⟩ := ih (raised u' chain) w' { { { fr with defers := ds } with mode := u' } with mode := raised u' chain } cs rfl rfl ht hf hk hR
        exact ⟨e', w'', fr', hR', Comes.of_steps (.head h1 (Steps.trans hsteps (.one h2))) hs', hfn', hl'⟩
      | outgrown => exact ⟨.outgrown, w', fr, hR, Outgrown.of_steps (.one h1) hsteps, rfl, trivial⟩
def bodyPostX (P : Program) (fn : Func) (R : Ending → World → Prop) : Exit → Act → World → Prop
  | .normal, a, w | .ret, a, w => LeavesX P fn a.tmps R a.defers .returning w
  | .panic chain, a, w => LeavesX P fn a.tmps R a.defers (.panicking chain) w
  | .outgrown, _, w => R .outgrown w
  | _, _, _ => False
theorem calls_of_wp_X {f : FuncId} {fn : Func} {c : Code} {args : Array Value} {w : World} {R : Ending → World → Prop}
    (hf : P.funcs[f]? = some fn) (hb : fn.body = some c)
    (h : c.wp P (bodyPostX P fn R) { tmps := args ++ Array.replicate (fn.ntmps - args.size) undef, defers := [] } w) : Calls P f args w R := by
  intro cs
  let b : Frame := { (default : Frame) with fn := f, kind := .normal }
  have henter : Frame.enter P f args .normal = b.at { tmps := args ++ Array.replicate (fn.ntmps - args.size) undef, defers := [] } [.code c] := by
    simp [Frame.enter, Frame.at, hf, hb, b]
  obtain ⟨e, a', w', hq, harr⟩ := h b [] cs
  rw [← henter] at harr
  cases e with
  | normal =>
    obtain ⟨e', w'', fr', hR, hs, hfn, hl⟩ := leavesX_steps a'.defers .returning w' { b.at a' [] with mode := .returning } cs rfl rfl rfl hf rfl hq
    exact ⟨e', w'', fr', hR, Comes.of_steps (Steps.trans harr (.one step_end)) hs, hfn, hl⟩
  | ret =>
    obtain ⟨todo, hs₀⟩ := harr
    obtain ⟨e', w'', fr', hR, hs, hfn, hl⟩ := leavesX_steps a'.defers .returning w' { b.at a' todo with mode := .returning } cs rfl rfl rfl hf rfl hq
    exact ⟨e', w'', fr', hR, Comes.of_steps hs₀ hs, hfn, hl⟩
  | panic chain =>
    obtain ⟨todo, hs₀⟩ := harr
    obtain ⟨e', w'', fr', hR, hs, hfn, hl⟩ := leavesX_steps a'.defers (.panicking chain) w' { b.at a' todo with mode := .panicking chain } cs rfl rfl rfl hf rfl hq
    exact ⟨e', w'', fr', hR, Comes.of_steps hs₀ hs, hfn, hl⟩
  | exit id => exact hq.elim
  | goto l => exact hq.elim
  | outgrown => exact ⟨.outgrown, w', b, hq, harr.resolve_left (by simp [b]), rfl, trivial⟩
/-- The model's stand-ins without a body. -/
theorem same_run {f : FuncId} (hs : sameFn P f = true) (x : Value) (w : World) : (callFunc f #[x]).run P w = .ok (.value x) w := by
  unfold sameFn at hs
  split at hs
  · rename_i fn hfn
    simp only [Bool.and_eq_true, beq_iff_eq] at hs
    obtain ⟨⟨hb, hn⟩, hx⟩ := hs
    have hne : (fn.name == "runtime.NumGoroutine") = false := by rw [hn]; decide
    have h1 : Extern.allGenericRows.lookup "internal/abi.NoEscape" = none := by kernel_rfl
    have h2 : Extern.allTypedRows.lookup "internal/abi.NoEscape" = none := by kernel_rfl
    have h3 : Extern.allRows.lookup "internal/abi.NoEscape" = some Extern.AbiNoEscape.same := by kernel_rfl
    rw [run_callFunc_extern hfn hne hb (by simpa using hx) (e := Extern.AbiNoEscape.same) (by unfold Extern.find; rw [hn]; simp only [h1, h2, h3]; rfl)]
    rw [Lib.run_noEscape]; rfl
  · cases hs
theorem idxB_eq : ∀ (l : List UInt8) (c : UInt8), idxB l c = Lib.indexByte l c
  | [], _ => rfl
  | b :: l, c => by unfold idxB Lib.indexByte; rw [idxB_eq l c]
theorem idx_run {f : FuncId} (hs : idxFn P f = true) (s : ByteArray) (c : Int) (w : World) : (callFunc f #[.string s, .int .u8 c]).run P w = .ok (.value (.int .i64 (idxB s.data.toList c.toNat.toUInt8))) w := by
  unfold idxFn at hs
  split at hs
  · rename_i fn hfn
    simp only [Bool.and_eq_true, beq_iff_eq] at hs
    obtain ⟨⟨hb, hn⟩, hx⟩ := hs
    have hne : (fn.name == "runtime.NumGoroutine") = false := by rw [hn]; decide
    have h1 : Extern.allGenericRows.lookup "internal/bytealg.IndexByteString" = none := by kernel_rfl
    have h2 : Extern.allTypedRows.lookup "internal/bytealg.IndexByteString" = none := by kernel_rfl
    have h3 : Extern.allRows.lookup "internal/bytealg.IndexByteString" = some Extern.BytealgIndexByte.indexByte := by kernel_rfl
    rw [run_callFunc_extern hfn hne hb (by simpa using hx) (e := Extern.BytealgIndexByte.indexByte) (by unfold Extern.find; rw [hn]; simp only [h1, h2, h3]; rfl)]
    rw [Lib.run_indexByteString, idxB_eq]; rfl
  · cases hs
theorem cnt_run {f : FuncId} (hs : cntFn P f = true) (s : ByteArray) (c : Int) (w : World) : (callFunc f #[.string s, .int .u8 c]).run P w = .ok (.value (.int .i64 ((s.data.toList.count c.toNat.toUInt8 : Nat) : Int))) w := by
  unfold cntFn at hs
  split at hs
  · rename_i fn hfn
    simp only [Bool.and_eq_true, beq_iff_eq] at hs
    obtain ⟨⟨hb, hn⟩, hx⟩ := hs
    have hne : (fn.name == "runtime.NumGoroutine") = false := by rw [hn]; decide
    have h1 : Extern.allGenericRows.lookup "internal/bytealg.CountString" = none := by kernel_rfl
    have h2 : Extern.allTypedRows.lookup "internal/bytealg.CountString" = none := by kernel_rfl
    have h3 : Extern.allRows.lookup "internal/bytealg.CountString" = some Extern.BytealgCount.count := by kernel_rfl
    rw [run_callFunc_extern hfn hne hb (by simpa using hx) (e := Extern.BytealgCount.count) (by unfold Extern.find; rw [hn]; simp only [h1, h2, h3]; rfl)]
    rw [Lib.run_countString]; rfl
  · cases hs
theorem mnz_run {f : FuncId} {e : TypeId} (hs : mnzFn P f = some e) {n : Nat} (hn : n ≤ 281474976710656) (w : World) : ∃ cs : Array Value, (callFunc f #[.int .i64 (n : Int)]).run P w = .ok (.value (.slice (some ⟨w.heap.size, 0, none⟩) n cs.size)) (w.drew.drew.alloc (.cells cs e)) := by
  unfold mnzFn at hs
  split at hs
  rotate_left
  · cases hs
  rename_i fn hfn
  split at hs
  rotate_left
  · cases hs
  rename_i hx
  split at hs
  rotate_left
  · cases hs
  rename_i t hrt
  split at hs
  rotate_left
  · cases hs
  rename_i ti hti
  split at hs
  rotate_left
  · cases hs
  rename_i e' hu
  simp only [Option.some.injEq] at hs
  subst hs
  simp only [Bool.and_eq_true, beq_iff_eq] at hx
  obtain ⟨⟨hb, hnm⟩, hx⟩ := hx
  obtain ⟨it, hit, hut, -⟩ := tiOf_ok hti
  rw [hu] at hut
  have hrt : fn.resultTypes = #[t] := arr1 hrt
  obtain ⟨cs, hr, _, _⟩ := Lib.run_makeNoZero (P := P) w fn.params t e' hut n hn
  have hne : (fn.name == "runtime.NumGoroutine") = false := by rw [hnm]; decide
  have h1 : Extern.allGenericRows.lookup "internal/bytealg.MakeNoZero" = none := by kernel_rfl
  have h2 : Extern.allTypedRows.lookup "internal/bytealg.MakeNoZero" = some Extern.BytealgMakeNoZero.makeNoZero := by kernel_rfl
  refine ⟨cs, ?_⟩
  rw [run_callFunc_extern hfn hne hb (by simpa using hx) (e := Extern.BytealgMakeNoZero.makeNoZero fn.params fn.resultTypes) (by unfold Extern.find; rw [hnm]; simp only [h1, h2]; rfl), hrt, hr]
  rfl
end Go.Abs
end

section
/- Code and calls: what the deterministic semantics comes to, the model comes to. -/
open Go.RowKit
namespace Go.Abs
variable {B0 : Zn} {w0 : World} {φ : Map} {h h' : AW} {w : World} {P : Program}

def FRel (φ : Map) (F : Fr) (a : Act) : Prop := a.tmps.size = F.n ∧ ∀ t, VRel φ (F.ev (.tmp t)) (a.eval (.tmp t))
def Glob (P : Program) (φ : Map) : Prop := ∀ g, g < P.globals.size → φ g = some (g, 0, 0)

theorem FRel.mono {ψ : Map} {F : Fr} {a : Act} (hm : φ.le ψ) (h : FRel φ F a) : FRel ψ F a := ⟨h.1, fun t => (h.2 t).mono hm⟩
theorem Glob.mono {ψ : Map} (hm : φ.le ψ) (h : Glob P φ) : Glob P ψ := fun g hg => hm _ _ (h g hg)

theorem ev_ok {F : Fr} {a : Act} (hF : FRel φ F a) (hG : Glob P φ) {x : Operand} (hx : operandOk P.globals.size x = true) : VRel φ (F.ev x) (a.eval x) := by
  cases x with
  | tmp t => exact hF.2 t
  | const v => exact flat_rel hx
  | global g => exact VRel.ptr (off := 0) (hG g (ble_true hx)) (Nat.zero_le _)
  | func f => exact VRel.func' _ L2.nil L2.nil

theorem operandsOk_spec {G : Nat} : ∀ {l : List Operand}, operandsOk G l = true → ∀ x, x ∈ l → operandOk G x = true
  | [], _, x, hx => by simp at hx
  | y :: l, h, x, hx => by
    simp only [operandsOk, Bool.and_eq_true] at h
    rcases List.mem_cons.1 hx with rfl | hm
    · exact h.1
    · exact operandsOk_spec h.2 x hm
theorem opersOk_spec {G : Nat} : ∀ {l : List Oper}, opersOk G l = true → ∀ o, o ∈ l → operandsOk G o.op.operands.toList = true
  | [], _, x, hx => by simp at hx
  | y :: l, h, x, hx => by
    simp only [opersOk, Bool.and_eq_true] at h
    rcases List.mem_cons.1 hx with rfl | hm
    · exact h.1
    · exact opersOk_spec h.2 x hm

theorem rev_ok {F : Fr} {a : Act} (hF : FRel φ F a) (hG : Glob P φ) {o : Oper} (ho : operandsOk P.globals.size o.op.operands.toList = true) : Rev φ F a.eval o.op.operands.toList :=
  fun x hx => ev_ok hF hG (operandsOk_spec ho x hx)

theorem put_ok {F F' : Fr} {a : Act} {d : Option Tmp} {v v' : Value} (hF : FRel φ F a) (hp : F.put d v = some F') (hv : VRel φ v v') : FRel φ F' (a.put d v') := by
  unfold Fr.put at hp
  cases d with
  | none => simp only [Option.some.injEq] at hp; subst hp; exact hF
  | some d =>
    simp only at hp
    split at hp
    · rename_i hb
      simp only [Option.some.injEq] at hp; subst hp
      have hlt := ble_true hb
      refine ⟨by simpa [Act.put] using hF.1, fun t => ?_⟩
      by_cases htd : t = d
      · subst htd
        simp only [Fr.ev, T.get?_set_same, Act.put, Act.eval]
        rw [Array.getD_eq_getD_getElem?, Array.getElem?_setIfInBounds_self, if_pos (by rw [hF.1]; omega)]
        exact hv
      · have := hF.2 t
        simp only [Fr.ev, T.get?_set_ne _ _ htd, Act.put, Act.eval] at this ⊢
        rw [Array.getD_eq_getD_getElem?, Array.getElem?_setIfInBounds_ne (Ne.symm htd), ← Array.getD_eq_getD_getElem?]
        exact this
    · cases hp

theorem guard_ok {F : Fr} {a : Act} {ops : Array Oper} {o : Oper} {b : Bool} (hF : FRel φ F a) (hg : guardOk ops.toList F o = some b) : Region.wanted o (yielded ops a.tmps) = b := by
  unfold guardOk at hg
  unfold Region.wanted
  split at hg
  · rename_i he
    simp only [Option.some.injEq] at hg; subst hg
    rw [he]
  · rename_i j want he
    rw [he]
    simp only
    unfold yielded
    split at hg
    · rename_i oj hoj
      have hoj' : ops[j]? = some oj := by simpa using hoj
      rw [hoj']
      simp only [Option.bind_some]
      split at hg
      · rename_i d hd
        rw [hd]
        simp only [Option.bind_some]
        have hr := hF.2 d
        simp only [Fr.ev, Act.eval] at hr
        have conc : ∀ v, a.tmps.getD d undef = v → ∀ c, v = .bool c → a.tmps[d]? = some (.bool c) := by
          intro v hv c hc
          rw [Array.getD_eq_getD_getElem?] at hv
          cases hx : a.tmps[d]? with
          | none => rw [hx] at hv; simp only [Option.getD_none] at hv; rw [hc] at hv; cases hv
          | some u => rw [hx] at hv; simp only [Option.getD_some] at hv; rw [hv, hc]
        split at hg
        · rename_i c hc
          rw [hc] at hr
          simp only [Option.some.injEq] at hg; subst hg
          have := conc _ hr.bool_inv c rfl
          rw [this]
          cases c <;> cases want <;> rfl
        · rename_i hnb
          simp only [Option.some.injEq] at hg; subst hg
          have hne : ∀ c, a.tmps[d]? ≠ some (.bool c) := by
            intro c hc
            have hgd : a.tmps.getD d undef = .bool c := by rw [Array.getD_eq_getD_getElem?, hc]; rfl
            rw [hgd] at hr
            cases hx : F.t.get? d with
            | none => rw [hx] at hr; cases hr
            | some u => rw [hx] at hr; simp only at hr; cases hr; exact hnb c hx
          cases hx : a.tmps[d]? with
          | none => cases want <;> rfl
          | some u =>
            rw [hx] at hne
            cases u <;> first | (exact absurd rfl (hne _)) | (cases want <;> rfl)
      · rename_i hd
        rw [hd]
        simp only [Option.some.injEq] at hg; subst hg
        cases want <;> rfl
    · rename_i hoj
      have hoj' : ops[j]? = none := by simpa using hoj
      rw [hoj']
      simp only [Option.some.injEq] at hg; subst hg
      cases want <;> rfl

/-- What is asked of whatever answers the calls. -/
def CallOk (P : Program) (B0 : Zn) (w0 : World) (call : FuncId → List Value → AW → Option (Value × AW)) : Prop :=
  ∀ f args h v h', call f args h = some (v, h') → ((∃ fn c, P.funcs[f]? = some fn ∧ fn.body = some c ∧ (fn.name == "runtime.NumGoroutine") = false) ∧
    ∀ (φ : Map) (w : World) (args' : List Value), LRel φ args args' → HRel B0 w0 φ h w → Glob P φ →
      Calls P f ⟨args'⟩ w fun e w' => ∃ ψ v', φ.le ψ ∧ e = .returned v' ∧ VRel ψ v v' ∧ HRel B0 w0 ψ h' w') ∨
    (((∀ b, v ≠ .bool b) ∧ hasBody P f = false) ∧ ∀ (φ : Map) (w : World) (args' : List Value), LRel φ args args' → HRel B0 w0 φ h w → ∃ ψ v' w', φ.le ψ ∧ VRel ψ v v' ∧ HRel B0 w0 ψ h' w' ∧ (callFunc f ⟨args'⟩).run P w = .ok (.value v') w')
/-- One operation, whatever it is, on the way. -/
theorem step_ok {call : FuncId → List Value → AW → Option (Value × AW)} (hcall : CallOk P B0 w0 call) {ops : Array Oper} {o : Oper} {F F' : Fr} {a : Act} (hok : operandsOk P.globals.size o.op.operands.toList = true)
    (hF : FRel φ F a) (H : HRel B0 w0 φ h w) (hG : Glob P φ) (hs : stepOp P call ops.toList o F h = some (F', h')) (K : Act → World → Prop) (Q : Exit → Act → World → Prop)
    (hK : ∀ ψ a' w', φ.le ψ → FRel ψ F' a' → HRel B0 w0 ψ h' w' → GrdLe P a'.defers a.defers → K a' w') :
    if Region.wanted o (yielded ops a.tmps) then o.wp P a w K Q else K (a.put o.dst undef) w := by
  have hdef : ∀ d v, (a.put d v).defers = a.defers := fun d v => by cases d <;> rfl
  unfold stepOp at hs
  split at hs
  · rename_i hg
    rw [guard_ok hF hg, if_pos rfl]
    split at hs
    · rename_i v h2 hv
      split at hs
      · rename_i F2 hput
        simp only [Option.some.injEq, Prod.mk.injEq] at hs
        obtain ⟨rfl, rfl⟩ := hs
        split at hv
        · rename_i f args ats hop
          split at hv
          · rename_i fid cargs ht
            unfold target at ht
            simp only at ht
            split at ht
            · rename_i f' first captured hfe
              simp only [Option.some.injEq, Prod.mk.injEq] at ht
              obtain ⟨rfl, rfl⟩ := ht
              rw [hop] at hok
              have hf := ev_ok hF hG (operandsOk_spec hok f (by simp [Op.operands, Call.operands]))
              rw [hfe] at hf
              obtain ⟨first', captured', hfc, hl1, hl2⟩ := hf.func_inv
              have hargs : LRel φ (vals F args) (args.map a.eval).toList := by
                rw [Array.toList_map]
                exact L2.self_map fun x hx => ev_ok hF hG (operandsOk_spec hok x (by simp [Op.operands, Call.operands]; exact .inr (by simpa using hx)))
              have hall : LRel φ (first.toList ++ (vals F args ++ captured.toList)) (first'.toList ++ ((args.map a.eval).toList ++ captured'.toList)) := hl1.append (hargs.append hl2)
              rcases hcall _ _ _ _ _ hv with ⟨⟨fn, c, hfn, hbody, hname⟩, hcalls⟩ | ⟨_, hext⟩
              rotate_left
              · obtain ⟨ψ, x', w', hle, hx, H', hext⟩ := hext φ w _ hall H
                have harr : (first' ++ args.map a.eval ++ captured' : Array Value) = ⟨first'.toList ++ ((args.map a.eval).toList ++ captured'.toList)⟩ := by
                  apply Array.ext'; simp
                have hrun : (execOp a.eval o).run P w = .ok (.value x') w' := by
                  simp only [execOp, hop, resolve, hfc, Deferred.ofValue, Sem.run_bind, Sem.run_pure, Result.andThen_ok, invoke, harr, hext]
                unfold Oper.wp
                rw [hrun, Oper.upon_value]
                exact hK ψ _ w' hle (put_ok (hF.mono hle) hput hx) H' (.of_eq (hdef _ _))
              have hC := hcalls φ w _ hall H hG
              have hrun : (execOp a.eval o).run P w = .ok (.enter f' ⟨first'.toList ++ ((args.map a.eval).toList ++ captured'.toList)⟩) w := by
                have harr : (first' ++ args.map a.eval ++ captured' : Array Value) = ⟨first'.toList ++ ((args.map a.eval).toList ++ captured'.toList)⟩ := by
                  apply Array.ext'; simp
                simp only [execOp, hop, resolve, hfc, Deferred.ofValue, Sem.run_bind, Sem.run_pure, Result.andThen_ok, invoke, callFunc, run_program, hfn, hname, Bool.false_eq_true, if_false, hbody, Option.isNone_some, harr]
              unfold Oper.wp
              rw [hrun, Oper.upon_enter]
              refine hC.mono fun e w' he => ?_
              obtain ⟨ψ, v', hle, rfl, hvr, H'⟩ := he
              exact hK ψ _ w' hle (put_ok (hF.mono hle) hput hvr) H' (.of_eq (hdef _ _))
            · cases ht
          · cases hv
        · rename_i hncall
          by_cases hdf : ∃ c, o.op = .defer c
          · obtain ⟨c, hop⟩ := hdf
            rw [hop] at hv
            unfold opD at hv
            simp only at hv
            split at hv
            rotate_left
            · cases hv
            rename_i hdb
            simp only [Option.some.injEq, Prod.mk.injEq] at hv
            obtain ⟨rfl, rfl⟩ := hv
            unfold deferB at hdb
            split at hdb
            rotate_left
            · cases hdb
            rename_i f hcal
            split at hdb
            rotate_left
            · cases hdb
            rename_i g first captured hfe
            rw [hop] at hok
            have hf := ev_ok hF hG (operandsOk_spec hok f (by simp [Op.operands, Call.operands, hcal]))
            rw [hfe] at hf
            obtain ⟨first', captured', hfc, hl1, hl2⟩ := hf.func_inv
            have hrun : (execOp a.eval o).run P w = .ok (.defer { target := .fn (.func g) captured', args := first' ++ c.args.map a.eval }) w := by
              simp only [execOp, hop, resolve, hcal, hfc, Deferred.ofValue, Sem.run_bind, Sem.run_pure, Result.andThen_ok]
            unfold Oper.wp
            rw [hrun, Oper.upon_defer]
            have hF2 : FRel φ F ({ a with defers := { target := .fn (.func g) captured', args := first' ++ c.args.map a.eval } :: a.defers }) := hF
            refine hK φ _ w φ.le_refl (put_ok hF2 hput VRel.undef) H ⟨[{ target := .fn (.func g) captured', args := first' ++ c.args.map a.eval }], ?_, ?_⟩
            · cases o.dst <;> rfl
            · intro d hd
              simp at hd
              subst hd
              exact ⟨g, captured', rfl, hdb⟩
          have hv : opV P F h o.op = some (v, h2) := by
            unfold opD at hv
            split at hv
            · rename_i c hop; exact absurd ⟨c, hop⟩ hdf
            · exact hv
          obtain ⟨ψ, v', w', hgives, hle, hvr, H'⟩ := opV_ok H (rev_ok hF hG hok) hv
          have hfin := hK ψ (a.put o.dst v') w' hle (put_ok (hF.mono hle) hput hvr) H' (.of_eq (hdef _ _))
          unfold Oper.wp
          rcases hgives with hg1 | ⟨rfl, hg1⟩
          · rw [hg1, Oper.upon_value]; exact hfin
          · rw [hg1, Oper.upon_skip]; exact hfin
      · cases hs
    · cases hs
  · rename_i hg
    rw [guard_ok hF hg, if_neg (by simp)]
    split at hs
    · rename_i F2 hput
      simp only [Option.some.injEq, Prod.mk.injEq] at hs
      obtain ⟨rfl, rfl⟩ := hs
      exact hK φ _ w φ.le_refl (put_ok hF hput VRel.undef) H (.of_eq (hdef _ _))
    · cases hs
  · cases hs

theorem runOps_ok {call : FuncId → List Value → AW → Option (Value × AW)} (hcall : CallOk P B0 w0 call) {ops : Array Oper} (hok : opersOk P.globals.size ops.toList = true) {Q : Exit → Act → World → Prop} :
    ∀ (l : List Oper) (k : Nat) (φ : Map) (F F' : Fr) (h h' : AW) (a : Act) (w : World), (∀ i, l[i]? = ops[k + i]?) → runOps P call ops.toList l F h = some (F', h') → FRel φ F a → HRel B0 w0 φ h w → Glob P φ →
      (∀ ψ a' w', φ.le ψ → FRel ψ F' a' → HRel B0 w0 ψ h' w' → GrdLe P a'.defers a.defers → Q .normal a' w') → wpOps P ops Q (List.range' k l.length) a w
  | [], k, φ, F, F', h, h', a, w, _, hr, hF, H, hG, hQ => by
    simp only [runOps, Option.some.injEq, Prod.mk.injEq] at hr
    obtain ⟨rfl, rfl⟩ := hr
    exact hQ φ a w φ.le_refl hF H .refl
  | o :: l, k, φ, F, F', h, h', a, w, hl, hr, hF, H, hG, hQ => by
    simp only [runOps] at hr
    split at hr
    · rename_i F1 h1 hs
      have hk : ops[k]? = some o := by have := hl 0; simpa using this.symm
      have hmem : o ∈ ops.toList := by
        have : ops.toList[k]? = some o := by simpa using hk
        exact List.mem_of_getElem? this
      have := step_ok hcall (ops := ops) (opersOk_spec hok o hmem) hF H hG hs (wpOps P ops Q (List.range' (k + 1) l.length)) Q
        (fun ψ a' w' hle hF' H' hd => runOps_ok hcall hok l (k + 1) ψ F1 F' h1 h' a' w' (fun i => by have := hl (i + 1); rw [show k + 1 + i = k + (i + 1) from by omega]; simpa using this) hr hF' H' (hG.mono hle)
          (fun ψ' a'' w'' hle' hF'' H'' hd' => hQ ψ' a'' w'' (Map.le_trans hle hle') hF'' H'' (hd'.trans hd)))
      rw [List.length_cons, List.range'_succ]
      simp only [wpOps, hk]
      split at this
      · rename_i hw
        rw [if_pos hw]
        exact .inl this
      · rename_i hw
        rw [if_neg hw]
        exact this
    · cases hr

def Ex.toExit : Ex → Exit
  | .normal => .normal
  | .exit id => .exit id
  | .ret => .ret

/-- What a drawn region must give: whatever the order, the end of the text's own. -/
def DrawnOk (P : Program) (B0 : Zn) (w0 : World) (call : FuncId → List Value → AW → Option (Value × AW)) : Prop :=
  ∀ (ops : Array Oper) (F F' : Fr) (h h' : AW), runDrawn P call ops F h = some (F', h') → opersOk P.globals.size ops.toList = true → P.follows .mixedOrders = true →
    ∀ (φ : Map) (a : Act) (w : World), FRel φ F a → HRel B0 w0 φ h w → Glob P φ → ∀ (id : Nat) (Q : Exit → Act → World → Prop),
      (∀ ψ a' w', φ.le ψ → FRel ψ F' a' → HRel B0 w0 ψ h' w' → a'.defers = a.defers → Q .normal a' w') → (Code.region id ops true).wp P Q a w

/-- A block that nobody knows of. -/
theorem HRel.skip (H : HRel B0 w0 φ h w) (x : Obj) : HRel ⟨B0.R, fun k => B0.Z k ∨ k = w.heap.size, fun k e => .inl (B0.sub k e)⟩ (w.alloc x) φ h (w.alloc x) := by
  refine ⟨fun k hk => ?_, BelowZ.refl _ _, H.dom, fun i o y ho hy => ?_, fun i o ho => ?_, H.fam, H.sep, H.ty.same (Cast.alloc _ _) rfl (Nat.le_refl _)⟩
  · rcases hk with hk | rfl
    · have := H.inn k hk; simp; omega
    · simp
  · have := H.lto i o y ho hy; simp; omega
  · obtain ⟨b, σ, κ, hp, hr⟩ := H.obj i o ho
    have hlt := H.lt ho hp
    have hr := hr.same (w' := w.alloc x) (by simp only [World.alloc, Array.getElem?_push]; rw [if_neg (Nat.ne_of_lt hlt)])
    refine ⟨b, σ, κ, hp, ?_⟩
    cases o with
    | var cs n ro =>
      obtain ⟨a1, a2, a3, a4, a5⟩ := hr
      exact ⟨a1, a2, a3, fun e => ⟨fun hz => hz.elim (a4 e).1 (Nat.ne_of_lt hlt), (a4 e).2⟩, a5⟩
    | row f g lo hi sz cs =>
      intro fm h2 h3
      obtain ⟨a1, a2⟩ := hr fm h2 h3
      exact ⟨fun hz => hz.elim a1 (Nat.ne_of_lt hlt), a2⟩
    | map es =>
      obtain ⟨a1, a2, a3, a4⟩ := hr
      exact ⟨a1, a2, fun hz => hz.elim a3 (Nat.ne_of_lt hlt), a4⟩
theorem put_comm {a : Act} {d : Option Tmp} {dz : Tmp} {v vz : Value} (h : d ≠ some dz) : (a.put (some dz) vz).put d v = (a.put d v).put (some dz) vz := by
  cases d with
  | none => rfl
  | some d =>
    have hne : dz ≠ d := fun e => h (by rw [e])
    simp only [Act.put]
    rw [Array.setIfInBounds_comm _ _ hne]
/-- Zones and worlds: what was to stay stays, and some blocks more. -/
structure Ext (B0 : Zn) (w0 : World) (B1 : Zn) (w1 : World) : Prop where
  z : ∀ k, B0.Z k → B1.Z k
  r : ∀ k, B1.R k → B0.R k
  base : ∀ k, B0.Z k → k < w0.heap.size
  below : BelowZ B0 w0 w1
theorem Ext.refl (H : HRel B0 w0 φ h w) : Ext B0 w0 B0 w0 := ⟨fun _ h => h, fun _ h => h, H.base, BelowZ.refl _ _⟩
theorem BelowZ.part {B0 B1 : Zn} {w1 w2 : World} (hz : ∀ k, B0.Z k → B1.Z k) (h : BelowZ B1 w1 w2) : BelowZ B0 w1 w2 := ⟨h.os, h.tape, h.output, h.size, fun k hk => h.block k (hz k hk)⟩
theorem Ext.trans {B1 B2 : Zn} {w1 w2 : World} (e : Ext B0 w0 B1 w1) (f : Ext B1 w1 B2 w2) : Ext B0 w0 B2 w2 :=
  ⟨fun k hk => f.z k (e.z k hk), fun k hk => e.r k (f.r k hk), e.base, e.below.trans (f.below.part e.z)⟩
def marks (ds : List Deferred) : List Nat := ds.filterMap fun d => match d.target with | .collected r => some r | _ => none
/-- The mark of a loop over a function, in whose rounds nothing was deferred. -/
def MarkD (B0 B1 : Zn) (w : World) (d : Deferred) : Prop := ∃ r, d.target = .collected r ∧ ¬ B0.Z r ∧ B1.Z r ∧ w.heap[r]? = some (.deferred (some []))
def DfLe (P : Program) (B0 B1 : Zn) (w1 : World) (new old : List Deferred) : Prop := ∃ ds, new = ds ++ old ∧ (∀ d, d ∈ ds → GuardD P d ∨ MarkD B0 B1 w1 d) ∧ (marks ds).Nodup
theorem marks_grd : ∀ {ds : List Deferred}, (∀ d, d ∈ ds → GuardD P d) → marks ds = []
  | [], _ => rfl
  | d :: ds, h => by
    obtain ⟨g, cap, e, _⟩ := h d (by simp)
    have ih := marks_grd (ds := ds) fun d' hd => h d' (List.mem_cons_of_mem _ hd)
    unfold marks at ih ⊢
    rw [List.filterMap_cons, e]
    exact ih
theorem DfLe.of_grd {x y : List Deferred} (g : GrdLe P x y) : DfLe P B0 B0 w x y := by
  obtain ⟨ds, e, hg⟩ := g
  exact ⟨ds, e, fun d hd => .inl (hg d hd), by rw [marks_grd hg]; exact List.nodup_nil⟩
theorem marks_mem {ds : List Deferred} {r : Nat} (h : r ∈ marks ds) : ∃ d, d ∈ ds ∧ d.target = .collected r := by
  unfold marks at h
  obtain ⟨d, hd, e⟩ := List.mem_filterMap.1 h
  refine ⟨d, hd, ?_⟩
  split at e
  · rename_i r' ht; rw [ht]; cases e; rfl
  · cases e
theorem DfLe.trans {B1 B2 : Zn} {w1 w2 : World} {x y z : List Deferred} (h2 : DfLe P B1 B2 w2 z y) (e : Ext B0 w0 B1 w1) (f : Ext B1 w1 B2 w2) (h1 : DfLe P B0 B1 w1 y x) : DfLe P B0 B2 w2 z x := by
  obtain ⟨d2, rfl, g2, n2⟩ := h2
  obtain ⟨d1, rfl, g1, n1⟩ := h1
  refine ⟨d2 ++ d1, by simp, fun d hd => ?_, ?_⟩
  · rcases List.mem_append.1 hd with hd | hd
    · exact (g2 d hd).imp id fun ⟨r, a, b, c, k⟩ => ⟨r, a, fun hz => b (e.z _ hz), c, k⟩
    · exact (g1 d hd).imp id fun ⟨r, a, b, c, k⟩ => ⟨r, a, b, f.z _ c, by rw [f.below.block r c]; exact k⟩
  · unfold marks at *
    rw [List.filterMap_append, List.nodup_append]
    refine ⟨n2, n1, fun r hr r' hr' => ?_⟩
    rintro rfl
    obtain ⟨a, ha, ea⟩ := marks_mem hr
    obtain ⟨b, hb, eb⟩ := marks_mem hr'
    rcases g2 a ha with ⟨_, _, x, _⟩ | ⟨r1, x, y, _⟩
    · rw [ea] at x; cases x
    · rw [ea] at x; cases x
      rcases g1 b hb with ⟨_, _, x, _⟩ | ⟨r2, x, _, y2, _⟩
      · rw [eb] at x; cases x
      · rw [eb] at x; cases x
        exact y y2
def OddB (w : World) (k : Nat) : Prop := (∃ r, w.heap[k]? = some (.loop r)) ∨ ∃ d, w.heap[k]? = some (.deferred d)
/-- The relation over another base: some blocks of the zone that hold no cells have turned. -/
theorem HRel.rebase {B1 B2 : Zn} {w1 w2 w' : World} {S : Nat → Prop} (H : HRel B1 w1 φ h w) (hbase : ∀ k, B2.Z k → k < w2.heap.size) (hz : ∀ k, B2.Z k → B1.Z k) (hr : ∀ k, B1.R k → B2.R k) (hbelow : BelowZ B2 w2 w')
    (hS : ∀ k, S k → B1.Z k ∧ ¬ B1.R k ∧ OddB w k) (hsz : w'.heap.size = w.heap.size) (hne : ∀ k, ¬ S k → w'.heap[k]? = w.heap[k]?) : HRel B2 w2 φ h w' := by
  refine ⟨hbase, hbelow, H.dom, fun i o x ho hx => by rw [hsz]; exact H.lto i o x ho hx, fun i o ho => ?_, H.fam, H.sep, H.ty.same ⟨fun b c t fz hc => ⟨c, fz, ?_⟩, fun b hc => ?_⟩ rfl (Nat.le_refl _)⟩
  · obtain ⟨b, σ, κ, hp, hR⟩ := H.obj i o ho
    refine ⟨b, σ, κ, hp, ?_⟩
    cases o with
    | var cs n ro =>
      cases ro with
      | false =>
        have hb : ¬ B1.Z b := (hR.2.2.2.1 rfl).1
        obtain ⟨a1, a2, a3, a4, a5⟩ := hR.same (w' := w') (hne b fun hs => hb (hS b hs).1)
        exact ⟨a1, a2, a3, fun e => ⟨fun hz2 => hb (hz b hz2), (a4 e).2⟩, fun e => by cases e⟩
      | true =>
        rcases hR.2.2.2.2 rfl with hb | hn
        · obtain ⟨a1, a2, a3, a4, a5⟩ := hR.same (w' := w') (hne b fun hs => (hS b hs).2.1 hb)
          exact ⟨a1, a2, a3, fun e => (by cases e), fun _ => .inl (hr b hb)⟩
        · exact ⟨hR.1, hR.2.1, fun k x hk => by omega, fun e => (by cases e), fun _ => .inr hn⟩
    | row f g lo hi sz cs =>
      intro fm hf hg
      have hb : ¬ B1.Z b := (hR fm hf hg).1
      have := (hR.same (w' := w') (hne b fun hs => hb (hS b hs).1)) fm hf hg
      exact ⟨fun hz2 => hb (hz b hz2), this.2⟩
    | map es =>
      have hb : ¬ B1.Z b := hR.2.2.1
      have := hR.same (w' := w') (hne b fun hs => hb (hS b hs).1)
      exact ⟨this.1, this.2.1, fun hz2 => hb (hz b hz2), this.2.2.2⟩
  · rw [hne b fun hs => by rcases (hS b hs).2.2 with ⟨r, e⟩ | ⟨r, e⟩ <;> (rw [hc] at e; cases e)]
    exact hc
  · rw [hne b fun hs => by rcases (hS b hs).2.2 with ⟨r, e⟩ | ⟨r, e⟩ <;> (rw [hc] at e; cases e)]
    exact hc
theorem overF_spec {F : Fr} {g : Operand} {f : FuncId} {args : List Value} (ht : overF F g = some (f, args)) : ∃ first captured, F.ev g = .func (.func f) first captured ∧ args = first.toList ++ ([.chan none] ++ captured.toList) := by
  unfold overF target at ht
  simp only at ht
  split at ht
  · rename_i f' first captured hfe
    simp only [Option.some.injEq, Prod.mk.injEq] at ht
    obtain ⟨rfl, rfl⟩ := ht
    exact ⟨first, captured, hfe, rfl⟩
  · cases ht
/-- A loop over a function that never calls the yield. -/
theorem range_ok {call : FuncId → List Value → AW → Option (Value × AW)} (hcall : ∀ B0 w0, CallOk P B0 w0 call) {g : Operand} {ps : Array Tmp} {x y : Code} (hok : operandOk P.globals.size g = true) {F : Fr} {f : FuncId} {args : List Value} {v : Value} {h1 : AW}
    (ht : overF F g = some (f, args)) (hb : hasBody P f = true) (hc : call f args h = some (v, h1)) {a : Act} (hF : FRel φ F a) (H : HRel B0 w0 φ h w) (hG : Glob P φ) (Q : Exit → Act → World → Prop)
    (hQ : ∀ ψ a' w' B1 w1, φ.le ψ → FRel ψ F a' → HRel B1 w1 ψ h1 w' → Ext B0 w0 B1 w1 → DfLe P B0 B1 w1 a'.defers a.defers → Q Ex.normal.toExit a' w') : (Code.rangeFunc g ps x y).wp P Q a w := by
  obtain ⟨first, captured, hfe, rfl⟩ := overF_spec ht
  have hf := ev_ok hF hG hok
  rw [hfe] at hf
  obtain ⟨first', captured', hfc, hl1, hl2⟩ := hf.func_inv
  refine wpIn_wide (n := 0) |>.1 (wpIn_rangeFunc fun fnid _ => ?_)
  let o1 : Obj := .deferred (some [])
  let rec0 : Loop := { state := .ready, pending := none, fn := fnid, tmps := a.tmps, params := ps, assign := x, body := y, defers := w.heap.size }
  let W1 : World := (w.alloc o1).alloc (.loop rec0)
  have H1 := (H.skip o1).skip (.loop rec0)
  have hs1 : (w.alloc o1).heap.size = w.heap.size + 1 := by show (w.heap.push o1).size = _; simp
  have hall : LRel φ (first.toList ++ ([.chan none] ++ captured.toList)) (first'.toList ++ ([Value.func (.yield (w.heap.size + 1)) #[] #[]] ++ captured'.toList)) := hl1.append ((L2.cons (.yield _) L2.nil).append hl2)
  rcases hcall _ _ _ _ _ _ _ hc with ⟨⟨fn, c, hfn, hbody, hname⟩, hcalls⟩ | ⟨⟨_, hnb⟩, _⟩
  rotate_left
  · rw [hb] at hnb; cases hnb
  have hC := hcalls φ W1 _ hall H1 hG
  have harr : (first' ++ #[Value.func (.yield (w.heap.size + 1)) #[] #[]] ++ captured' : Array Value) = ⟨first'.toList ++ ([Value.func (.yield (w.heap.size + 1)) #[] #[]] ++ captured'.toList)⟩ := by
    apply Array.ext'; simp
  refine ⟨w.heap.size + 1, [{ target := .collected w.heap.size, args := #[] }], W1, { target := .fn (.func f) captured', args := first' ++ #[Value.func (.yield (w.heap.size + 1)) #[] #[]] }, W1, f, _, W1, run_enterLoop_outer _ _ _ _ _, ?_, fun _ _ => trivial, ?_, (fun e => by cases e), callsIn_wide.2 (hC.mono fun e w3 he => ?_)⟩
  · simp only [resolve, rangeCall, hfc, Deferred.ofValue, Sem.run_bind, Sem.run_pure, Result.andThen_ok]
    rw [show Array.map a.eval #[Operand.const (Value.func (.yield (w.heap.size + 1)) #[] #[])] = #[Value.func (.yield (w.heap.size + 1)) #[] #[]] from by simp [Act.eval]]
  · simp only [invoke, harr, callFunc, Sem.run_bind, run_program, Result.andThen_ok, hfn, hname, Bool.false_eq_true, if_false, hbody, Option.isNone_some, Sem.run_pure]
  · obtain ⟨ψ, v', hle, rfl, hv, H3⟩ := he
    have hl : w3.heap[w.heap.size + 1]? = some (.loop rec0) := by
      rw [H3.below.block (w.heap.size + 1) (.inr hs1.symm), ← hs1]
      exact World.alloc_heap_new _ _
    have hd : w3.heap[w.heap.size]? = some (.deferred (some [])) := by
      rw [H3.below.block w.heap.size (.inl (.inr rfl))]
      show (((w.heap.push o1).push (.loop rec0)))[w.heap.size]? = _
      rw [Array.getElem?_push, if_neg (by simp), Array.getElem?_push, if_pos rfl]
    refine ⟨none, w3.putObj (w.heap.size + 1) (.loop { rec0 with state := .exhausted }), run_endLoop hl (by simp [rec0]), ?_⟩
    have hlt3 : w.heap.size + 1 < w3.heap.size := (Array.getElem?_eq_some_iff.1 hl).1
    have hzl : ¬ B0.Z (w.heap.size + 1) := fun hz => by have := H.inn _ hz; omega
    have hzd : ¬ B0.Z w.heap.size := H.newZ
    have hb03 : BelowZ B0 w0 w3 := (H.below.trans (BelowZ.refl B0 w |>.alloc H.inn o1 |>.alloc (fun k hk => by rw [hs1]; have := H.inn _ hk; omega) (.loop rec0))).trans (H3.below.part fun k hk => by exact Or.inl (Or.inl hk))
    let w4 : World := w3.putObj (w.heap.size + 1) (.loop { rec0 with state := .exhausted })
    have hne4 : ∀ k, k ≠ w.heap.size + 1 → w4.heap[k]? = w3.heap[k]? := fun k hk => World.putObj_heap_other hk
    let B2 : Zn := ⟨B0.R, fun k => B0.Z k ∨ k = w.heap.size, fun k e => .inl (B0.sub k e)⟩
    have hb2 : ∀ k, B2.Z k → k < w4.heap.size := fun k hk => by
      have e4 : w4.heap.size = w3.heap.size := World.putObj_size
      rw [e4]
      rcases hk with hk | rfl
      · have := H.inn _ hk; omega
      · omega
    have H4 : HRel B2 w4 ψ h1 w4 := H3.rebase (S := fun k => k = w.heap.size + 1) hb2 (fun k hk => by exact Or.inl hk) (fun k hk => hk) (BelowZ.refl _ _)
      (fun k hk => by subst hk; exact ⟨Or.inr hs1.symm, fun hr => hzl (B0.sub _ hr), .inl ⟨_, hl⟩⟩) World.putObj_size hne4
    have hb04 : BelowZ B0 w0 w4 := hb03.trans ⟨rfl, rfl, rfl, Nat.le_of_eq World.putObj_size.symm, fun k hk => hne4 k fun e => hzl (e ▸ hk)⟩
    refine hQ ψ _ w4 B2 w4 hle ⟨hF.1, fun t => (hF.2 t).mono hle⟩ H4 ⟨fun k hk => .inl hk, fun k hk => hk, H.base, hb04⟩ ⟨[{ target := .collected w.heap.size, args := #[] }], rfl, fun d hd' => ?_, by simp [marks]⟩
    simp only [List.mem_singleton] at hd'
    subst hd'
    exact .inr ⟨_, rfl, hzd, .inr rfl, by rw [hne4 _ (by omega)]; exact hd⟩

theorem run_ok {call : FuncId → List Value → AW → Option (Value × AW)} (hcall : ∀ B0 w0, CallOk P B0 w0 call) (hdrawn : ∀ B0 w0, DrawnOk P B0 w0 call) (hmix : P.follows .mixedOrders = true) : ∀ (n : Nat),
    (∀ (c : Code) (F F' : Fr) (h h' : AW) (e : Ex), run P call n c F h = some (e, F', h') → codeOk P.globals.size c = true → ∀ (B0 : Zn) (w0 : World) (φ : Map) (a : Act) (w : World), FRel φ F a → HRel B0 w0 φ h w → Glob P φ →
      ∀ (Q : Exit → Act → World → Prop), (∀ ψ a' w' B1 w1, φ.le ψ → FRel ψ F' a' → HRel B1 w1 ψ h' w' → Ext B0 w0 B1 w1 → DfLe P B0 B1 w1 a'.defers a.defers → Q e.toExit a' w') → c.wp P Q a w) ∧
    (∀ (b : Code) (F F' : Fr) (h h' : AW) (e : Ex), run P call n (.loop b) F h = some (e, F', h') → codeOk P.globals.size b = true → ∀ (B0 : Zn) (w0 : World) (φ : Map) (a : Act) (w : World), FRel φ F a → HRel B0 w0 φ h w → Glob P φ →
      ∀ (Q : Exit → Act → World → Prop), (∀ ψ a' w' B1 w1, φ.le ψ → FRel ψ F' a' → HRel B1 w1 ψ h' w' → Ext B0 w0 B1 w1 → DfLe P B0 B1 w1 a'.defers a.defers → Q e.toExit a' w') → Code.rounds P b Q n a w) := by
  intro n
  induction n with
  | zero => exact ⟨fun c F F' h h' e hr => by simp [run] at hr, fun b F F' h h' e hr => by simp [run] at hr⟩
  | succ n ih =>
    obtain ⟨ihA, ihB⟩ := ih
    have B : ∀ (b : Code) (F F' : Fr) (h h' : AW) (e : Ex), run P call (n + 1) (.loop b) F h = some (e, F', h') → codeOk P.globals.size b = true → ∀ (B0 : Zn) (w0 : World) (φ : Map) (a : Act) (w : World), FRel φ F a → HRel B0 w0 φ h w → Glob P φ →
      ∀ (Q : Exit → Act → World → Prop), (∀ ψ a' w' B1 w1, φ.le ψ → FRel ψ F' a' → HRel B1 w1 ψ h' w' → Ext B0 w0 B1 w1 → DfLe P B0 B1 w1 a'.defers a.defers → Q e.toExit a' w') → Code.rounds P b Q (n + 1) a w := by
      intro b F F' h h' e hr hok B0 w0 φ a w hF H hG Q hQ
      rw [rounds_succ]
      simp only [run] at hr
      split at hr
      · rename_i F1 h1 hb
        refine ihA b F F1 h h1 .normal hb hok B0 w0 φ a w hF H hG _ (fun ψ a' w' B1 w1 hle hF' H' hex hd => ?_)
        exact ihB b F1 F' h1 h' e hr hok B1 w1 ψ a' w' hF' H' (hG.mono hle) Q (fun ψ' a'' w'' B2 w2 hle' hF'' H'' hex' hd' => hQ ψ' a'' w'' B2 w2 (Map.le_trans hle hle') hF'' H'' (hex.trans hex') (hd'.trans hex hex' hd))
      · rename_i hnn
        refine ihA b F F' h h' e hr hok B0 w0 φ a w hF H hG _ (fun ψ a' w' B1 w1 hle hF' H' hex hd => ?_)
        have hq := hQ ψ a' w' B1 w1 hle hF' H' hex hd
        cases e with
        | normal => exact absurd hr (hnn F' h')
        | exit id => exact hq
        | ret => exact hq
    refine ⟨?_, B⟩
    intro c F F' h h' e hr hok B0 w0 φ a w hF H hG Q hQ
    cases c with
    | skip =>
      simp only [run, Option.some.injEq, Prod.mk.injEq] at hr
      obtain ⟨rfl, rfl, rfl⟩ := hr
      exact wp_skip (hQ φ a w B0 w0 φ.le_refl hF H (.refl H) (.of_grd .refl))
    | label l =>
      simp only [run, Option.some.injEq, Prod.mk.injEq] at hr
      obtain ⟨rfl, rfl, rfl⟩ := hr
      exact wp_label (hQ φ a w B0 w0 φ.le_refl hF H (.refl H) (.of_grd .refl))
    | region id ops draw =>
      simp only [run] at hr
      cases draw with
      | false =>
        simp only at hr
        split at hr
        · rename_i F1 h1 hops
          simp only [Option.some.injEq, Prod.mk.injEq] at hr
          obtain ⟨rfl, rfl, rfl⟩ := hr
          have := runOps_ok (hcall B0 w0) (ops := ops) (by simpa [codeOk] using hok) (Q := Q) ops.toList 0 φ F F1 h h1 a w (fun i => by simp) hops hF H hG (fun ψ a' w' hle hF' H' hd => hQ ψ a' w' B0 w0 hle hF' H' (.refl H) (.of_grd hd))
          rw [Array.length_toList, ← List.range_eq_range'] at this
          exact wp_region this
        · cases hr
      | true =>
        simp only at hr
        split at hr
        · rename_i F1 h1 hops
          simp only [Option.some.injEq, Prod.mk.injEq] at hr
          obtain ⟨rfl, rfl, rfl⟩ := hr
          exact hdrawn B0 w0 ops F F1 h h1 hops (by simpa [codeOk] using hok) hmix φ a w hF H hG id Q fun ψ a' w' hle hF' H' hd => hQ ψ a' w' B0 w0 hle hF' H' (.refl H) (.of_grd (.of_eq hd))
        · cases hr
    | seq x y =>
      simp only [codeOk, Bool.and_eq_true] at hok
      simp only [run] at hr
      refine wp_seq ?_
      split at hr
      · rename_i F1 h1 hx
        refine ihA x F F1 h h1 .normal hx hok.1 B0 w0 φ a w hF H hG _ (fun ψ a' w' B1 w1 hle hF' H' hex hd => ?_)
        exact ihA y F1 F' h1 h' e hr hok.2 B1 w1 ψ a' w' hF' H' (hG.mono hle) Q (fun ψ' a'' w'' B2 w2 hle' hF'' H'' hex' hd' => hQ ψ' a'' w'' B2 w2 (Map.le_trans hle hle') hF'' H'' (hex.trans hex') (hd'.trans hex hex' hd))
      · rename_i hnn
        refine ihA x F F' h h' e hr hok.1 B0 w0 φ a w hF H hG _ (fun ψ a' w' B1 w1 hle hF' H' hex hd => ?_)
        have hq := hQ ψ a' w' B1 w1 hle hF' H' hex hd
        cases e with
        | normal => exact absurd hr (hnn F' h')
        | exit id => exact hq
        | ret => exact hq
    | cond x y z =>
      simp only [codeOk, Bool.and_eq_true] at hok
      simp only [run] at hr
      have hx := ev_ok hF hG hok.1.1
      split at hr
      · rename_i he
        rw [he] at hx
        exact wp_cond_true hx.bool_inv (ihA y F F' h h' e hr hok.1.2 B0 w0 φ a w hF H hG Q hQ)
      · rename_i he
        rw [he] at hx
        exact wp_cond_false hx.bool_inv (ihA z F F' h h' e hr hok.2 B0 w0 φ a w hF H hG Q hQ)
      · cases hr
    | block id b =>
      simp only [codeOk] at hok
      simp only [run] at hr
      refine wp_block ?_
      split at hr
      · rename_i j F1 h1 hb
        split at hr
        · rename_i hj
          have := beq_true hj
          subst this
          simp only [Option.some.injEq, Prod.mk.injEq] at hr
          obtain ⟨rfl, rfl, rfl⟩ := hr
          refine ihA b F F1 h h1 (.exit j) hb hok B0 w0 φ a w hF H hG _ (fun ψ a' w' B1 w1 hle hF' H' hex hd => ?_)
          have hq := hQ ψ a' w' B1 w1 hle hF' H' hex hd
          simp only [Ex.toExit, Exit.inBlock, if_true]
          exact hq
        · rename_i hj
          simp only [Option.some.injEq, Prod.mk.injEq] at hr
          obtain ⟨rfl, rfl, rfl⟩ := hr
          refine ihA b F F1 h h1 (.exit j) hb hok B0 w0 φ a w hF H hG _ (fun ψ a' w' B1 w1 hle hF' H' hex hd => ?_)
          have hq := hQ ψ a' w' B1 w1 hle hF' H' hex hd
          have hne : j ≠ id := by rintro rfl; rw [Nat.beq_refl] at hj; cases hj
          simp only [Ex.toExit, Exit.inBlock, if_neg hne]
          exact hq
      · rename_i hnn
        refine ihA b F F' h h' e hr hok B0 w0 φ a w hF H hG _ (fun ψ a' w' B1 w1 hle hF' H' hex hd => ?_)
        have hq := hQ ψ a' w' B1 w1 hle hF' H' hex hd
        cases e with
        | normal => exact hq
        | exit id => exact absurd hr (hnn _ F' h')
        | ret => exact hq
    | loop b =>
      simp only [codeOk] at hok
      exact wp_loop_rounds (n + 1) (B b F F' h h' e hr hok B0 w0 φ a w hF H hG Q hQ)
    | exit id =>
      simp only [run, Option.some.injEq, Prod.mk.injEq] at hr
      obtain ⟨rfl, rfl, rfl⟩ := hr
      exact wp_exit (hQ φ a w B0 w0 φ.le_refl hF H (.refl H) (.of_grd .refl))
    | scope b =>
      simp only [codeOk] at hok
      simp only [run] at hr
      refine wp_scope_straight (ihA b F F' h h' e hr hok B0 w0 φ a w hF H hG _ (fun ψ a' w' B1 w1 hle hF' H' hex hd => ?_))
      have hq := hQ ψ a' w' B1 w1 hle hF' H' hex hd
      cases e <;> exact hq
    | ret =>
      simp only [run, Option.some.injEq, Prod.mk.injEq] at hr
      obtain ⟨rfl, rfl, rfl⟩ := hr
      exact wp_ret (hQ φ a w B0 w0 φ.le_refl hF H (.refl H) (.of_grd .refl))
    | rangeFunc g ps x y =>
      simp only [codeOk] at hok
      simp only [run] at hr
      split at hr
      · rename_i f args ht
        split at hr
        · rename_i v h1 hb hc1
          simp only [Option.some.injEq, Prod.mk.injEq] at hr
          obtain ⟨rfl, rfl, rfl⟩ := hr
          exact range_ok hcall hok ht hb hc1 hF H hG Q hQ
        · cases hr
      · cases hr
    | goto l => simp [run] at hr
    | refuse s => simp [run] at hr

theorem loadVar_ok (H : HRel B0 w0 φ h w) {t : TypeId} {x x' v : Value} (hx : VRel φ x x') (hl : loadV P h t x = some v) :
    ∃ v', (do loadVar t (← asAddr x') : Sem Value).run P w = .ok v' w ∧ VRel φ v v' := by
  obtain ⟨v', h1, h2⟩ := loadV_ok (P := P) H hx hl
  refine ⟨v', ?_, h2⟩
  unfold loadV at hl
  split at hl
  · obtain ⟨_, b, σ, κ, hp, hs, rfl⟩ := hx.ptr_inv
    simpa [Instr.loadAt, Instr.sureAddr, asAddr] using h1
  · cases hl

theorem results_ok (H : HRel B0 w0 φ h w) {F : Fr} {a : Act} (hF : FRel φ F a) : ∀ {rs : List ResultVar} {vs : List Value}, resultL P F h rs = some vs →
    ∃ vs', (rs.mapM (fun | .tmp t => pure (a.tmps.getD t undef) | .cell p t => do loadVar t (← asAddr (a.tmps.getD p undef))) : Sem (List Value)).run P w = .ok vs' w ∧ LRel φ vs vs'
  | [], vs, hr => by
    simp only [resultL, Option.some.injEq] at hr; subst hr
    exact ⟨[], rfl, L2.nil⟩
  | r :: rs, vs, hr => by
    simp only [resultL] at hr
    split at hr
    · rename_i v hv
      split at hr
      · rename_i vs2 hvs
        simp only [Option.some.injEq] at hr; subst hr
        obtain ⟨vs', h1, h2⟩ := results_ok H hF hvs
        have one : ∃ v', ((match r with | .tmp t => pure (a.tmps.getD t undef) | .cell p t => do loadVar t (← asAddr (a.tmps.getD p undef)) : Sem Value)).run P w = .ok v' w ∧ VRel φ v v' := by
          cases r with
          | tmp t =>
            simp only [resultV, Option.some.injEq] at hv; subst hv
            exact ⟨_, rfl, hF.2 t⟩
          | cell p t =>
            exact loadVar_ok H (hF.2 p) hv
        obtain ⟨v', h3, h4⟩ := one
        refine ⟨v' :: vs', ?_, L2.cons h4 h2⟩
        rw [List.mapM_cons]
        simp only [Sem.run_bind, h3, Result.andThen_ok, h1, Sem.run_pure]
      · cases hr
    · cases hr

/-- A frame's way out: past the guards and the marks; then the results. -/
theorem leave_ok {fn : Func} {tmps : Array Value} {R : Ending → World → Prop} {ψ : Map} {h1 : AW} (fin : ∀ W, HRel B0 w0 ψ h1 W → ∃ v, (results fn tmps).run P W = .ok v W ∧ R (.returned v) W) :
    ∀ (ds : List Deferred) (W : World) (B1 : Zn) (w1 : World), HRel B1 w1 ψ h1 W → Ext B0 w0 B1 w1 → (∀ d, d ∈ ds → GuardD P d ∨ MarkD B0 B1 W d) → (marks ds).Nodup → LeavesX P fn tmps R ds .returning W
  | [], W, B1, w1, H, e, _, _ => by
    obtain ⟨v, hr, hR⟩ := fin W (H.rebase (S := fun _ => False) e.base e.z e.r (e.below.trans (H.below.part e.z)) (fun _ h => h.elim) rfl fun _ _ => rfl)
    exact ⟨v, hr, hR⟩
  | d :: ds, W, B1, w1, H, e, hd, hn => by
    have hd' : ∀ x, x ∈ ds → GuardD P x ∨ MarkD B0 B1 W x := fun x hx => hd x (List.mem_cons_of_mem _ hx)
    rcases hd d (List.mem_cons_self ..) with ⟨g, cap, ht, hg⟩ | ⟨r, ht, hz0, hz1, hr⟩
    · have hn' : (marks ds).Nodup := by
        unfold marks at hn ⊢
        rw [List.filterMap_cons, ht] at hn
        exact hn
      obtain ⟨fn', hf, hnm, hb⟩ := guard_name hg
      refine ⟨by simp, .inr ⟨.func g, cap, g, d.args ++ cap, ht, ?_, (guard_calls hg _ W).mono ?_⟩⟩
      · rw [ht]
        simp only [invoke, callFunc, Sem.run_bind, Sem.run_pure, run_program, Result.andThen_ok, hf, hnm, hb, Bool.false_eq_true, if_false]
      · rintro e' u' w' ⟨rfl, rfl, rfl⟩
        exact leave_ok fin ds _ B1 w1 H e hd' hn'
    · have hn2 : r ∉ marks ds ∧ (marks ds).Nodup := by
        unfold marks at hn ⊢
        rw [List.filterMap_cons, ht] at hn
        exact List.nodup_cons.1 hn
      have hlt : r < W.heap.size := (Array.getElem?_eq_some_iff.1 hr).1
      have hne : ∀ k, k ≠ r → (W.putObj r (.deferred none)).heap[k]? = W.heap[k]? := fun k hk => World.putObj_heap_other hk
      have hrR : ∀ k, B1.R k → k ≠ r := fun k hk er => hz0 (B0.sub _ (e.r _ (er ▸ hk)))
      let B2 : Zn := ⟨B1.R, fun k => B1.Z k ∧ k ≠ r, fun k hk => ⟨B1.sub k hk, hrR k hk⟩⟩
      have H2 : HRel B2 (W.putObj r (.deferred none)) ψ h1 (W.putObj r (.deferred none)) := H.rebase (S := fun k => k = r) (fun k hk => by rw [World.putObj_size]; exact H.inn k hk.1) (fun k hk => hk.1) (fun k hk => hk) (BelowZ.refl _ _)
        (fun k hk => by subst hk; exact ⟨hz1, fun hR => hrR _ hR rfl, .inr ⟨_, hr⟩⟩) World.putObj_size hne
      have e2 : Ext B0 w0 B2 (W.putObj r (.deferred none)) := ⟨fun k hk => ⟨e.z k hk, fun er => hz0 (er ▸ hk)⟩, fun k hk => e.r k hk, e.base,
        (e.below.trans (H.below.part e.z)).trans ⟨rfl, rfl, rfl, Nat.le_of_eq World.putObj_size.symm, fun k hk => hne k fun er => hz0 (er ▸ hk)⟩⟩
      refine ⟨by simp, .inl ⟨r, _, ht, run_takeDeferred hr, leave_ok fin ds _ B2 _ H2 e2 (fun x hx => ?_) hn2.2⟩⟩
      rcases hd' x hx with g | ⟨r', ht', z0, z1, hr'⟩
      · exact .inl g
      · have hrr : r' ≠ r := by
          rintro rfl
          refine hn2.1 ?_
          unfold marks
          exact List.mem_filterMap.2 ⟨x, hx, by rw [ht']⟩
        exact .inr ⟨r', ht', z0, ⟨z1, hrr⟩, by rw [hne r' hrr]; exact hr'⟩
/-- A body that has been run. -/
theorem body_calls (hdrawn : ∀ (call : FuncId → List Value → AW → Option (Value × AW)), (∀ B0 w0, CallOk P B0 w0 call) → ∀ B0 w0, DrawnOk P B0 w0 call) {n : Nat} (ih : ∀ B0 w0, CallOk P B0 w0 (callF P n)) {f : FuncId} {fn : Func} {c : Code} (hfn : P.funcs[f]? = some fn) (hbody : fn.body = some c) (hcode : codeOk P.globals.size c = true) (hmix : P.follows .mixedOrders = true)
    {args : List Value} {h h1 : AW} {e : Ex} {F1 : Fr} {v : Value} (hrun : run P (callF P n) n c { n := Nat.max args.length fn.ntmps, t := T.ofList args } h = some (e, F1, h1)) (hne : ∀ id, e ≠ .exit id)
    (hres : resultL P F1 h1 fn.results.toList = some [v] ∨ ∃ vs, resultL P F1 h1 fn.results.toList = some vs ∧ (∀ q, vs ≠ [q]) ∧ v = .tuple ⟨vs⟩) (B0 : Zn) (w0 : World) (φ : Map) (w : World) (args' : List Value) (hargs : LRel φ args args') (H : HRel B0 w0 φ h w) (hG : Glob P φ) :
    Calls P f ⟨args'⟩ w fun e w' => ∃ ψ v', φ.le ψ ∧ e = .returned v' ∧ VRel ψ v v' ∧ HRel B0 w0 ψ h1 w' := by
  have hF : FRel φ { n := Nat.max args.length fn.ntmps, t := T.ofList args } { tmps := (⟨args'⟩ : Array Value) ++ Array.replicate (fn.ntmps - args'.length) undef, defers := [] } := by
    have hlen : args.length = args'.length := hargs.1
    refine ⟨?_, fun (t : Nat) => ?_⟩
    · simp only [Array.size_append, List.size_toArray, Array.size_replicate]
      show args'.length + (fn.ntmps - args'.length) = max args.length fn.ntmps
      omega
    simp only [Fr.ev, Act.eval, T.get?_ofList]
    rw [Array.getD_eq_getD_getElem?]
    by_cases ht : t < args.length
    · obtain ⟨v', hv', hr'⟩ := hargs.get (List.getElem?_eq_getElem ht)
      have ht' : t < args'.length := by omega
      rw [List.getElem?_eq_getElem ht, Array.getElem?_append_left (by simpa using ht')]
      simp only [List.getElem?_toArray, hv', Option.getD_some]
      exact hr'
    · rw [List.getElem?_eq_none (Nat.le_of_not_lt ht)]
      have : (((⟨args'⟩ : Array Value) ++ Array.replicate (fn.ntmps - args'.length) undef)[t]?).getD undef = undef := by
        rw [Array.getElem?_append_right (by simp; omega)]
        by_cases h2 : t - args'.length < fn.ntmps - args'.length
        · simp [h2]
        · simp [h2]
      rw [this]
      exact VRel.undef
  have hA := (run_ok ih (hdrawn _ ih) hmix n).1 c _ F1 h h1 e hrun hcode B0 w0 φ _ w hF H hG
    (bodyPostX P fn fun e w' => ∃ ψ v', φ.le ψ ∧ e = .returned v' ∧ VRel ψ v v' ∧ HRel B0 w0 ψ h1 w') (fun ψ a' w' B1 w1 hle hF' H' hex hd => by
      have res : ∀ W, HRel B0 w0 ψ h1 W → ∃ v', (results fn a'.tmps).run P W = .ok v' W ∧ VRel ψ v v' := fun W H' => by
        have fin : ∀ vs vs', resultL P F1 h1 fn.results.toList = some vs → LRel ψ vs vs' →
            ((fn.results.mapM (fun | .tmp t => pure (a'.tmps.getD t undef) | .cell p t => do loadVar t (← asAddr (a'.tmps.getD p undef))) : Sem (Array Value)).run P W = .ok ⟨vs'⟩ W) →
            (results fn a'.tmps).run P W = .ok (if h : (⟨vs'⟩ : Array Value).size = 1 then (⟨vs'⟩ : Array Value)[0] else .tuple ⟨vs'⟩) W := by
          intro vs vs' _ _ hm
          unfold results
          simp only [Sem.run_bind]
          refine Eq.trans (congrArg (fun r => Result.andThen r _) hm) ?_
          rfl
        rcases hres with hx | ⟨vs, hx, hnot, rfl⟩
        · obtain ⟨vs', hv1, hv2⟩ := results_ok (P := P) H' hF' hx
          obtain ⟨y, t, rfl, hy, ht⟩ := hv2.cons_left
          cases ht.nil_left
          have := fin _ _ hx hv2 (by rw [Array.mapM_eq_mapM_toList, Sem.run_map, hv1]; rfl)
          exact ⟨y, by simpa using this, hy⟩
        · obtain ⟨vs', hv1, hv2⟩ := results_ok (P := P) H' hF' hx
          have := fin _ _ hx hv2 (by rw [Array.mapM_eq_mapM_toList, Sem.run_map, hv1]; rfl)
          have hlen : (⟨vs'⟩ : Array Value).size ≠ 1 := by
            intro hl
            have hl' : vs.length = 1 := by rw [hv2.1]; simpa using hl
            match vs, hl' with
            | [q], _ => exact hnot q rfl
          rw [dif_neg hlen] at this
          exact ⟨_, this, VRel.tuple' hv2⟩
      obtain ⟨ds, hds, hgd, hnd⟩ := hd
      have hds : a'.defers = ds := by rw [hds]; simp
      have hlv := leave_ok (P := P) (fn := fn) (tmps := a'.tmps) (R := fun e w' => ∃ ψ v', φ.le ψ ∧ e = .returned v' ∧ VRel ψ v v' ∧ HRel B0 w0 ψ h1 w')
        (fun W HW => by obtain ⟨v', hv1, hv2⟩ := res W HW; exact ⟨v', hv1, ψ, v', hle, rfl, hv2, HW⟩) ds w' B1 w1 H' hex (fun d hd => (hgd d hd).imp id fun ⟨r, x, y, z, k⟩ => ⟨r, x, y, z, by rw [H'.below.block r z]; exact k⟩) hnd
      rw [← hds] at hlv
      cases e with
      | normal => exact hlv
      | exit id => exact absurd rfl (hne id)
      | ret => exact hlv)
  exact calls_of_wp_X (P := P) (f := f) (args := ⟨args'⟩) (R := fun e w' => ∃ ψ v', φ.le ψ ∧ e = .returned v' ∧ VRel ψ v v' ∧ HRel B0 w0 ψ h1 w') hfn hbody (w := w) (by simpa using hA)
/-- The globals' own map. -/
def globMap (n : Nat) : Map := fun i => if i < n then some (i, 0, 0) else none
theorem glob_rel0 {n : Nat} {W : World} : HRel (Zn.lt W.heap.size) W (globMap n) ⟨n, .nil, .nil, .nil, .nil⟩ W := by
  refine ⟨fun _ h => h, BelowZ.refl _ _, ?_, ?_, ?_, ?_, ?_, TyR.nil rfl⟩
  · intro i x hx
    unfold globMap at hx
    split at hx
    · rename_i hi
      exact hi
    · cases hx
  · intro i o x ho; simp [T.get?] at ho
  · intro i o ho; simp [T.get?] at ho
  · intro i f g lo hi sz cs ho; simp [T.get?] at ho
  · intro i j oi oj b σ κ σ' κ' _ ho; simp [T.get?] at ho
/-- What grows beside turns nothing. -/
theorem HRel.beside (H : HRel B0 w0 φ h w) {w' : World} (hb : BelowZ (Zn.lt w.heap.size) w w') : HRel B0 w0 φ h w' := by
  have hlt : ∀ i o b σ κ, h.objs.get? i = some o → φ i = some (b, σ, κ) → w'.heap[b]? = w.heap[b]? := fun i o b σ κ ho hp => hb.block b (H.lt ho hp)
  refine ⟨H.base, H.below.trans ⟨hb.os, hb.tape, hb.output, hb.size, fun k hk => hb.block k (H.inn k hk)⟩, H.dom, fun i o x ho hp => Nat.lt_of_lt_of_le (H.lto i o x ho hp) hb.size, fun i o ho => ?_, H.fam, H.sep, ?_⟩
  · obtain ⟨b, σ, κ, hp, hr⟩ := H.obj i o ho
    exact ⟨b, σ, κ, hp, hr.same (hlt i o b σ κ ho hp)⟩
  · refine H.ty.same ⟨fun b c t fz hc => ⟨c, fz, ?_⟩, fun b hc => ?_⟩ rfl (Nat.le_refl _)
    · rw [hb.block b (Array.getElem?_eq_some_iff.1 hc).1]
      exact hc
    · rw [hb.block b (Array.getElem?_eq_some_iff.1 hc).1]
      exact hc
theorem nb_some {f : FuncId} {fn : Func} (hfn : P.funcs[f]? = some fn) (h : fn.body.isNone = true) : hasBody P f = false := by
  unfold hasBody
  rw [hfn]
  simp only
  cases hb : fn.body with
  | none => rfl
  | some c => rw [hb] at h; cases h
theorem plain1_rel {φ ψ : Map} {v v' : Value} (hp : plain1 v = true) (h : VRel φ v v') : VRel ψ v v' := by
  cases h with
  | bool b => exact .bool b
  | int k n => exact .int k n
  | string s => exact .string s
  | _ => simp [plain1] at hp
theorem plainL_at : ∀ {l : List Value}, plainL l = true → ∀ (i : Nat) v, l[i]? = some v → plain1 v = true
  | [], _, _, _, h => by simp at h
  | x :: l, hp, i, v, h => by
    simp only [plainL, Bool.and_eq_true] at hp
    cases i with
    | zero => simp only [List.getElem?_cons_zero, Option.some.injEq] at h; rw [← h]; exact hp.1
    | succ i => exact plainL_at hp.2 i v (by simpa using h)
theorem plain_rel {φ ψ : Map} {v v' : Value} (hp : plain v = true) (h : VRel φ v v') : VRel ψ v v' := by
  cases h with
  | bool b => exact .bool b
  | int k n => exact .int k n
  | string s => exact .string s
  | agg hl h =>
    simp only [plain] at hp
    exact .agg hl fun i v v' e e' => plain1_rel (plainL_at hp i v e) (h i v v' e e')
  | _ => simp [plain, plain1] at hp
theorem plainL_rel {φ ψ : Map} {l l' : List Value} (h : L2 (VRel φ) l l') (hp : plainL l = true) : L2 (VRel ψ) l l' :=
  ⟨h.1, fun i v v' e e' => plain1_rel (plainL_at hp i v e) (h.2 i v v' e e')⟩
theorem nb_same {f : FuncId} (h : sameFn P f = true) : hasBody P f = false := by
  unfold sameFn at h
  split at h
  · rename_i fn hfn; simp only [Bool.and_eq_true] at h; exact nb_some hfn h.1.1
  · cases h
theorem nb_idx {f : FuncId} (h : idxFn P f = true) : hasBody P f = false := by
  unfold idxFn at h
  split at h
  · rename_i fn hfn; simp only [Bool.and_eq_true] at h; exact nb_some hfn h.1.1
  · cases h
theorem nb_cnt {f : FuncId} (h : cntFn P f = true) : hasBody P f = false := by
  unfold cntFn at h
  split at h
  · rename_i fn hfn; simp only [Bool.and_eq_true] at h; exact nb_some hfn h.1.1
  · cases h
theorem nb_mnz {f : FuncId} {e : TypeId} (h : mnzFn P f = some e) : hasBody P f = false := by
  unfold mnzFn at h
  split at h
  · rename_i fn hfn
    split at h
    · rename_i hx; simp only [Bool.and_eq_true] at hx; exact nb_some hfn hx.1.1
    · cases h
  · cases h
theorem callF_ok (hdrawn : ∀ (call : FuncId → List Value → AW → Option (Value × AW)), (∀ B0 w0, CallOk P B0 w0 call) → ∀ B0 w0, DrawnOk P B0 w0 call) : ∀ n B0 w0, CallOk P B0 w0 (callF P n) := by
  intro n
  induction n with
  | zero => intro B0 w0 f args h v h' hr; simp [callF] at hr
  | succ n ih =>
    intro B0 w0 f args h v h' hr
    simp only [callF] at hr
    split at hr
    · rename_i fn c hb
      have hfacts : P.funcs[f]? = some fn ∧ fn.body = some c ∧ codeOk P.globals.size c = true ∧ (fn.name == "runtime.NumGoroutine") = false ∧ P.follows .mixedOrders = true := by
        unfold bodyOf at hb
        split at hb
        · rename_i fn2 hfn
          split at hb
          · rename_i c2 hc2
            split at hb
            · rename_i hx
              simp only [Option.some.injEq, Prod.mk.injEq] at hb
              obtain ⟨rfl, rfl⟩ := hb
              simp only [Bool.and_eq_true, Bool.not_eq_true'] at hx
              exact ⟨hfn, hc2, hx.1.1.1, hx.1.2, hx.2⟩
            · cases hb
          · cases hb
        · cases hb
      obtain ⟨hfn, hbody, hcode, hname, hmix⟩ := hfacts
      refine .inl ⟨⟨fn, c, hfn, hbody, hname⟩, fun φ w args' hargs H hG => ?_⟩
      split at hr
      · cases hr
      · rename_i e F1 h1 hne hrun
        split at hr
        · rename_i x hx
          simp only [Option.some.injEq, Prod.mk.injEq] at hr
          obtain ⟨rfl, rfl⟩ := hr
          exact body_calls hdrawn ih hfn hbody hcode hmix hrun hne (.inl hx) B0 w0 φ w args' hargs H hG
        · rename_i vs hnot hx
          simp only [Option.some.injEq, Prod.mk.injEq] at hr
          obtain ⟨rfl, rfl⟩ := hr
          exact body_calls hdrawn ih hfn hbody hcode hmix hrun hne (.inr ⟨vs, hx, fun q e => hnot q e, rfl⟩) B0 w0 φ w args' hargs H hG
        · cases hr
      · cases hr
    · unfold noBodyV at hr
      split at hr
      rotate_left
      · split at hr
        rotate_left
        · cases hr
        rename_i fn c hb
        have hfacts : P.funcs[f]? = some fn ∧ fn.body = some c ∧ codeOk P.globals.size c = true ∧ (fn.name == "runtime.NumGoroutine") = false ∧ P.follows .mixedOrders = true := by
          unfold closedOf at hb
          split at hb
          · rename_i fn2 hfn
            split at hb
            · rename_i c2 hc2
              split at hb
              · rename_i hx
                simp only [Option.some.injEq, Prod.mk.injEq] at hb
                obtain ⟨rfl, rfl⟩ := hb
                simp only [Bool.and_eq_true, Bool.not_eq_true'] at hx
                exact ⟨hfn, hc2, hx.1.1.1, hx.1.2, hx.2⟩
              · cases hb
            · cases hb
          · cases hb
        obtain ⟨hfn, hbody, hcode, hname, hmix⟩ := hfacts
        split at hr
        rotate_left
        · cases hr
        rename_i hpl
        split at hr
        rotate_left
        · cases hr
        rename_i v2 hcr
        simp only [Option.some.injEq, Prod.mk.injEq] at hr
        obtain ⟨rfl, rfl⟩ := hr
        unfold closedRes at hcr
        split at hcr
        · cases hcr
        · rename_i e F1 h1 hne hrun
          split at hcr
          · rename_i x hx
            split at hcr
            · rename_i hpx
              simp only [Option.some.injEq] at hcr
              subst hcr
              refine .inl ⟨⟨fn, c, hfn, hbody, hname⟩, fun φ w args' hargs H hG => ?_⟩
              refine (body_calls hdrawn ih hfn hbody hcode hmix hrun hne (.inl hx) (Zn.lt w.heap.size) w (globMap P.globals.size) w args' (plainL_rel hargs hpl) glob_rel0 (fun g hg => by simp [globMap, hg])).mono fun e w' he => ?_
              obtain ⟨ψ, v', _, rfl, hv, H'⟩ := he
              exact ⟨φ, v', φ.le_refl, rfl, plain_rel hpx hv, H.beside H'.below⟩
            · cases hcr
          · cases hcr
        · cases hcr
      · rename_i r0 hr0
        simp only [Option.some.injEq] at hr
        subst hr
        rcases sameV_spec hr0 with ⟨rfl, ⟨p, rfl, rfl, hs⟩ | ⟨s, c, rfl, rfl, hs⟩ | ⟨s, c, rfl, rfl, hs⟩⟩ | ⟨m, el, j, h2, rfl, hs, hm, hnr, rfl, rfl⟩
        · refine .inr ⟨⟨(fun b hb => by cases hb), nb_same hs⟩, fun φ w args' hl H => ?_⟩
          obtain ⟨x', t1, rfl, hx, ht1⟩ := L2.cons_left hl
          cases ht1.nil_left
          exact ⟨φ, x', w, φ.le_refl, hx, H, same_run hs x' w⟩
        · refine .inr ⟨⟨(fun b hb => by cases hb), nb_idx hs⟩, fun φ w args' hl H => ?_⟩
          obtain ⟨x', t1, rfl, hx, ht1⟩ := L2.cons_left hl
          obtain ⟨y', t2, rfl, hy, ht2⟩ := L2.cons_left ht1
          cases ht2.nil_left
          rw [hx.string_inv, hy.int_inv]
          exact ⟨φ, _, w, φ.le_refl, .int _ _, H, idx_run hs s c w⟩
        · refine .inr ⟨⟨(fun b hb => by cases hb), nb_cnt hs⟩, fun φ w args' hl H => ?_⟩
          obtain ⟨x', t1, rfl, hx, ht1⟩ := L2.cons_left hl
          obtain ⟨y', t2, rfl, hy, ht2⟩ := L2.cons_left ht1
          cases ht2.nil_left
          rw [hx.string_inv, hy.int_inv]
          exact ⟨φ, _, w, φ.le_refl, .int _ _, H, cnt_run hs s c w⟩
        · refine .inr ⟨⟨(fun b hb => by cases hb), nb_mnz hs⟩, fun φ w args' hl H => ?_⟩
          obtain ⟨x', t1, rfl, hx, ht1⟩ := L2.cons_left hl
          cases ht1.nil_left
          rw [hx.int_inv]
          obtain ⟨cs, hrun⟩ := mnz_run hs hm w
          obtain ⟨ψ, hle, hp, H'⟩ := (H.drew.drew).newRow hnr L2.nil el cs.size (rest := cs.toList) (by simp)
          have hcs : (⟨[] ++ cs.toList⟩ : Array Value) = cs := by simp
          rw [hcs] at H'
          refine ⟨ψ, _, _, hle, ?_, H'.tag (H'.dom j _ hp) (fun b σ κ hp2 => ?_), hrun⟩
          · have := VRel.slice (φ := ψ) (i := j) (off := 0) (len := m) (cap := 0) (a' := ⟨w.heap.size, 0, none⟩) hp (Nat.zero_le _) (.inl rfl)
            rw [Nat.zero_add] at this
            exact this
          · rw [hp] at hp2
            cases hp2
            refine ⟨cs, (0, 0), ?_⟩
            show (w.drew.drew.heap.push (Obj.cells cs el))[w.drew.drew.heap.size]? = _
            generalize w.drew.drew.heap = z
            simp

end Go.Abs
end
