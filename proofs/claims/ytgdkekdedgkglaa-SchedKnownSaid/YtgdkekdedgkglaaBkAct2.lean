/- make, copy, append, the maps' operations: held against the model's. -/
import Derived.Test.YtgdkekdedgkglaaBkAct
open Go.RowKit
namespace Go.Abs
variable {B0 : Nat} {w0 : World} {φ : Map} {h h' : AW} {w : World} {P : Program}

theorem run_checkKeyN {kt : TypeId} {d : TypeDesc} (hd : P.underlying kt = some d) (hk : keyKind d = true) (e : Bool) (n : Nat) (hn : n ≠ 0) (k : Value) : (Instr.checkKey e n kt k).run P w = .ok () w := by
  obtain ⟨m, rfl⟩ := Nat.exists_eq_succ_of_ne_zero hn
  exact run_checkKey' hd hk e m k

theorem makeSlice_ok (H : HRel B0 w0 φ h w) {t : TypeId} {l l' c c' v : Value} (hl : VRel φ l l') (hc : VRel φ c c') (hr : makeSliceV P h t l c = some (v, h')) : Out B0 w0 φ (Instr.makeSlice t l' c') P w v h' := by
  unfold makeSliceV at hr
  split at hr
  · rename_i ti kl nl kc nc ht
    obtain ⟨it, hit, hut, -⟩ := tiOf_ok ht
    cases hl.int_inv; cases hc.int_inv
    split at hr
    · rename_i elem hd
      rw [hd] at hut
      split at hr
      · rename_i te hte
        obtain ⟨ie, hie, hue, _, hsz, hby, hz⟩ := tiOf_ok hte
        split at hr
        · rename_i z hzz hb
          obtain ⟨hz1, hz2, hz3⟩ := hz z hzz
          simp only [Bool.and_eq_true] at hb
          have b1 := ble_true hb.1.1
          have b2 := ble_true hb.1.2
          have b3 := ble_true hb.2
          split at hr
          · split at hr
            · rename_i i h2 hn
              simp only [Option.some.injEq, Prod.mk.injEq] at hr
              obtain ⟨rfl, rfl⟩ := hr
              obtain ⟨ψ, h1, h2', h3⟩ := H.newVar hn (rep_flat hz2 nc) elem
              refine ⟨ψ, .slice (some ⟨w.heap.size, 0, none⟩) nl (nc + 0), _, ?_, h1, VRel.slice h2' (Nat.zero_le _) (.inl rfl), h3⟩
              have w1 := wrap_nat (n := nl) (by omega)
              have w2 := wrap_nat (n := nc) b3
              have hmul : (ie.bytes : Int) * (nc : Int) ≤ 281474976710656 := by
                have : ie.bytes * nc ≤ 140737488355328 := by rw [Nat.mul_comm, ← hby]; exact b2
                have h2 : ((ie.bytes * nc : Nat) : Int) ≤ 140737488355328 := by omega
                rw [Int.natCast_mul] at h2
                omega
              have hmul' : (ie.bytes : Int) * (nc : Int) ≤ 2 ^ 48 := by
                rw [show (2 : Int) ^ 48 = 281474976710656 by decide]; exact hmul
              have tl : ¬ ((nc : Int) < 0) := by omega
              have l0 : ¬ ((nl : Int) < 0) := by omega
              have l1 : ¬ ((nl : Int) > (nc : Int)) := by omega
              have hng : ¬ ((ie.bytes : Int) * (nc : Int) > 2 ^ 48) := by omega
              have cond : (((decide ((nc : Int) < 0) || decide ((ie.bytes : Int) * (nc : Int) > 2 ^ 48)) || decide ((nl : Int) < 0)) || decide ((nl : Int) > (nc : Int))) = false := by
                rw [decide_eq_false tl, decide_eq_false hng, decide_eq_false l0, decide_eq_false l1]; rfl
              have hrep : nc * te.size = 0 → rep z.cells.toList nc = [] := fun h0 => List.eq_nil_of_length_eq_zero (by rw [rep_length]; simp [hz3, h0])
              simp only [Instr.makeSlice, asInt, asIntOf, Sem.run_bind, run_underlying hut, Result.andThen_ok, Sem.run_pure, run_typeInfo' hie, Int.ofNat_eq_natCast, w1, w2]
              rw [cond]
              simp only [Bool.false_eq_true, if_false, Sem.run_bind, run_askRoom, Result.andThen_ok, Int.toNat_natCast, run_sizeOf' hie, ← hsz]
              by_cases h0 : nc * te.size = 0
              · have e0 : (Array.map (fun x => (#[] : Array Value)[x % (#[] : Array Value).size]!) (Array.range 0)) = ⟨[]⟩ := by simp
                rw [if_pos h0, hrep h0, h0]
                simp only [Sem.run_bind, Sem.run_pure, Result.andThen_ok, e0, newRow, run_newObj]
                rfl
              · rw [if_neg h0]
                have e := rep_range z.cells nc
                rw [hz3] at e
                simp only [Sem.run_bind, run_zeroValue' hie hz1, Result.andThen_ok, Sem.run_pure, hz3, e, newRow, run_newObj]
                simp
            · cases hr
          · cases hr
        · cases hr
      · cases hr
    · cases hr
  · cases hr

theorem sliceA_ok (H : HRel B0 w0 φ h w) {t : TypeId} {x x' m m' v : Value} {lo lo' hi hi' : Option Value} (hx : VRel φ x x') (hlo : ORelV φ lo lo') (hhi : ORelV φ hi hi') (hm : VRel φ m m') (hr : sliceA P h t x lo hi m = some (v, h')) :
    Out B0 w0 φ (Instr.sliceAt t x' lo' hi' (some m')) P w v h' := by
  unfold sliceA at hr
  split at hr
  · rename_i ti ht
    obtain ⟨it, hit, hut, -⟩ := tiOf_ok ht
    split at hr
    · rename_i elem a len cap hi1 hd
      rw [hd] at hut
      cases hi' with
      | none => exact hhi.elim
      | some hi2 =>
      split at hr
      · rename_i mm hmm
        split at hr
        · rename_i u hu
          split at hr
          · rename_i l hl
            split at hr
            · rename_i hml
              have hml := beq_true hml
              subst hml
              obtain ⟨km, rfl, hmle⟩ := bnd_ok hm hmm
              obtain ⟨ku, rfl, hule⟩ := bnd_ok hhi hu
              have hlu : mm ≤ u := by
                cases lo with
                | none => simp only [bndO, Option.some.injEq] at hl; omega
                | some y => cases lo' with
                  | none => exact hlo.elim
                  | some y' => exact (bnd_ok hlo hl).choose_spec.2
              have hu' : u = mm := by omega
              subst hu'
              have bounds : ∀ cap', cap ≤ cap' → (Instr.sliceBounds true len cap' lo' (some (.int ku (u : Int))) (some (.int km (u : Int)))).run P w = .ok (u, u, u) w := by
                intro cap' hc
                have r1 := fun c => run_sliceBound (P := P) w km (u : Int) cap' c (by omega) (by omega)
                have r2 := fun c => run_sliceBound (P := P) w ku (u : Int) u c (by omega) (by omega)
                cases lo with
                | none =>
                  simp only [bndO, Option.some.injEq] at hl
                  cases lo' with
                  | some _ => exact hlo.elim
                  | none =>
                    rw [show (u, u, u) = (0, u, u) from by rw [← hl]]
                    simp [Instr.sliceBounds, r1, r2]
                | some y => cases lo' with
                  | none => exact hlo.elim
                  | some y' =>
                    obtain ⟨ky, rfl, _⟩ := bnd_ok hlo hl
                    have r3 := fun c => run_sliceBound (P := P) w ky (u : Int) u c (by omega) (by omega)
                    simp [Instr.sliceBounds, r1, r2, r3]
              split at hr
              · cases hr
              rename_i te hte
              obtain ⟨ie, hie', -⟩ := tiOf_ok hte
              split at hr
              · rename_i bi off
                simp only [Option.some.injEq, Prod.mk.injEq] at hr
                obtain ⟨rfl, rfl⟩ := hr
                obtain ⟨_, b, σ, κ, off', hp, hσ, ho, rfl⟩ := hx.slice_inv
                obtain ⟨ψ, h1, h2, h3⟩ := H.newNone 0 (H.lt hp)
                refine ⟨ψ, .slice (some ⟨b, off', none⟩) 0 (0 + 0), w, ?_, h1, VRel.slice h2 (Nat.zero_le _) (.inr ⟨rfl, rfl⟩), h3⟩
                simp only [Instr.sliceAt, Instr.slice, Sem.run_bind, run_underlying hut, Result.andThen_ok, bounds (cap + κ) (by omega), run_sizeOf' hie', Sem.run_pure, if_true, Nat.sub_self]
              · cases hr
              · simp only [Option.some.injEq, Prod.mk.injEq] at hr
                obtain ⟨rfl, rfl⟩ := hr
                cases hx.sliceN_inv
                refine ⟨φ, .slice none 0 0, w, ?_, φ.le_refl, .sliceN _ _, H⟩
                simp only [Instr.sliceAt, Instr.slice, Sem.run_bind, run_underlying hut, Result.andThen_ok, bounds cap (Nat.le_refl _), run_sizeOf' hie', Sem.run_pure, if_true, Nat.sub_self]
            · cases hr
          · cases hr
        · cases hr
      · cases hr
    · cases hr
  · cases hr

theorem upd_ok {d : TypeDesc} {k k' v v' : Value} (hk : VRel φ k k') (hv : VRel φ v v') : ∀ {es r : List (Value × Value)} {es' : List MapEntry} (i : Nat), L2 (fun (p : Value × Value) (e : MapEntry) => VRel φ p.1 e.key ∧ VRel φ p.2 e.val) es es' → upd d k v es = some r →
    (Instr.findNow d k' es' i = some none ∧ r = es ++ [(k, v)]) ∨
    ∃ j e, Instr.findNow d k' es' i = some (some (i + j, e.val)) ∧ es'[j]? = some e ∧ Instr.sameNow d k' e.key = some true ∧ r = es.set j (k, v)
  | [], r, es', i, hl, hr => by
    cases hl.nil_left
    simp only [upd, Option.some.injEq] at hr; subst hr
    exact .inl ⟨rfl, rfl⟩
  | (q, x) :: es, r, es', i, hl, hr => by
    obtain ⟨e, t, rfl, ⟨h1, h2⟩, h3⟩ := hl.cons_left
    simp only [upd] at hr
    split at hr
    · rename_i hs
      simp only [Option.some.injEq] at hr; subst hr
      have hs' := sameNow_rel hk h1 hs
      exact .inr ⟨0, e, by simp [Instr.findNow, hs'], rfl, hs', rfl⟩
    · rename_i hs
      have hs' := sameNow_rel hk h1 hs
      split at hr
      · rename_i r2 hr2
        simp only [Option.some.injEq] at hr; subst hr
        rcases upd_ok hk hv (i + 1) h3 hr2 with ⟨a, rfl⟩ | ⟨j, e2, a, b, c, rfl⟩
        · exact .inl ⟨by simp [Instr.findNow, hs', a], rfl⟩
        · exact .inr ⟨j + 1, e2, by simp [Instr.findNow, hs', a]; omega, by simpa using b, c, rfl⟩
      · cases hr
    · cases hr

theorem sameBits_of {d : TypeDesc} {a b : Value} (h : Instr.sameNow d a b = some true) (n : Nat) : Instr.sameBits n b a = true := by
  unfold Instr.sameNow at h
  split at h
  · split at h
    · rename_i hk; subst hk
      simp only [Option.some.injEq, beq_iff_eq] at h; subst h
      cases n <;> simp [Instr.sameBits]
    · cases h
  · simp only [Option.some.injEq] at h
    rw [beq_toListBytes, beq_iff_eq] at h
    cases n <;> (simp only [Instr.sameBits]; rw [beq_toListBytes, beq_iff_eq]; exact h.symm)
  · simp only [Option.some.injEq, beq_iff_eq] at h; subst h
    cases n <;> simp [Instr.sameBits]
  · cases h

theorem mapUpd_ok (H : HRel B0 w0 φ h w) {t : TypeId} {m m' k k' v v' : Value} (hm : VRel φ m m') (hk : VRel φ k k') (hv : VRel φ v v') (hr : mapUpdV P h t m k v = some h') :
    ∃ w', (Instr.mapUpdate t m' k' v').run P w = .ok () w' ∧ HRel B0 w0 φ h' w' := by
  unfold mapUpdV at hr
  split at hr
  · rename_i ti r ht
    obtain ⟨it, hit, hut, -⟩ := tiOf_ok ht
    split at hr
    · rename_i kt et hd
      rw [hd] at hut
      split at hr
      · rename_i tk htk
        obtain ⟨ik, hik, huk, -⟩ := tiOf_ok htk
        split at hr
        · rename_i es hkk ho
          split at hr
          · rename_i es2 hup
            simp only [Option.some.injEq] at hr; subst hr
            obtain ⟨b, σ, κ, hp, rfl⟩ := hm.map_inv
            obtain ⟨ents, clock, hw, hl, hset⟩ := H.setMap ho hp
            have hck := run_checkKeyN (w := w) huk hkk false 10000 (by omega) k'
            rcases upd_ok hk hv 0 hl hup with ⟨hf, rfl⟩ | ⟨j, e, hf, he, hs, rfl⟩
            · refine ⟨_, ?_, hset _ (ents.push { key := k', val := v', born := clock }) (clock + 1) (by
                simp only [Array.toList_push]
                exact hl.append (L2.cons ⟨hk, hv⟩ L2.nil))⟩
              simp only [Instr.mapUpdate, Sem.run_bind, run_underlying hut, Result.andThen_ok, run_getObj' hw]
              rw [hck]
              simp only [Result.andThen_ok, run_findKey' huk hf, run_setObj' _ hw]
            · have he' : ents[j]? = some e := by simpa using he
              refine ⟨_, ?_, hset _ (ents.modify j fun e => { e with key := k', val := v' }) clock (by
                have : (ents.modify j fun e => { e with key := k', val := v' }).toList = ents.toList.set j { e with key := k', val := v' } := by
                  apply List.ext_getElem?
                  intro i
                  rw [Array.getElem?_toList, Array.getElem?_modify, List.getElem?_set]
                  by_cases hij : j = i
                  · subst hij
                    rw [if_pos rfl, he', if_pos rfl]
                    have : j < ents.toList.length := (List.getElem?_eq_some_iff.1 he).1
                    rw [if_pos this]; rfl
                  · rw [if_neg hij, if_neg hij, Array.getElem?_toList]
                rw [this]
                exact hl.set j ⟨hk, hv⟩)⟩
              simp only [Instr.mapUpdate, Sem.run_bind, run_underlying hut, Result.andThen_ok, run_getObj' hw]
              rw [hck]
              have hb := sameBits_of hs 10000
              simp only [Nat.zero_add] at hf
              simp only [Result.andThen_ok, run_findKey' huk hf, he', Option.map_some, Option.getD_some, Instr.keyThatStays]
              rw [hb]
              simp only [if_true, Sem.run_bind, Sem.run_pure, Result.andThen_ok, run_setObj' _ hw]
          · cases hr
        · cases hr
      · cases hr
    · cases hr
  · cases hr

theorem del_ok {d : TypeDesc} {k k' : Value} (hk : VRel φ k k') : ∀ {es r : List (Value × Value)} {es' : List MapEntry} (i : Nat), L2 (fun (p : Value × Value) (e : MapEntry) => VRel φ p.1 e.key ∧ VRel φ p.2 e.val) es es' → del d k es = some r →
    (Instr.findNow d k' es' i = some none ∧ r = es) ∨ ∃ j v, Instr.findNow d k' es' i = some (some (i + j, v)) ∧ j < es'.length ∧ r = es.eraseIdx j
  | [], r, es', i, hl, hr => by
    cases hl.nil_left
    simp only [del, Option.some.injEq] at hr; subst hr
    exact .inl ⟨rfl, rfl⟩
  | (q, x) :: es, r, es', i, hl, hr => by
    obtain ⟨e, t, rfl, ⟨h1, h2⟩, h3⟩ := hl.cons_left
    simp only [del] at hr
    split at hr
    · rename_i hs
      simp only [Option.some.injEq] at hr; subst hr
      have hs' := sameNow_rel hk h1 hs
      exact .inr ⟨0, e.val, by simp [Instr.findNow, hs'], by simp, rfl⟩
    · rename_i hs
      have hs' := sameNow_rel hk h1 hs
      split at hr
      · rename_i r2 hr2
        simp only [Option.some.injEq] at hr; subst hr
        rcases del_ok hk (i + 1) h3 hr2 with ⟨a, rfl⟩ | ⟨j, v, a, b, rfl⟩
        · exact .inl ⟨by simp [Instr.findNow, hs', a], rfl⟩
        · exact .inr ⟨j + 1, v, by simp [Instr.findNow, hs', a]; omega, by simpa using b, rfl⟩
      · cases hr
    · cases hr

theorem L2.eraseIdx {α β : Type} {R : α → β → Prop} : ∀ {l : List α} {l' : List β} (j : Nat), L2 R l l' → L2 R (l.eraseIdx j) (l'.eraseIdx j)
  | [], l', j, h => by cases h.nil_left; exact L2.nil
  | a :: l, l', j, h => by
    obtain ⟨b, t, rfl, h1, h2⟩ := h.cons_left
    cases j with
    | zero => exact h2
    | succ j => exact L2.cons h1 (L2.eraseIdx j h2)

theorem delete_ok (H : HRel B0 w0 φ h w) {ts : Array TypeId} {ty : TypeId} {args args' : List Value} {v : Value} (ha : LRel φ args args') (hr : deleteB P h ts args = some (v, h')) : Out B0 w0 φ (Builtin.delete_ ts ty ⟨args'⟩) P w v h' := by
  unfold deleteB at hr
  split at hr
  · rename_i t rest m k hts
    obtain ⟨m', a2, rfl, hm, ha2⟩ := ha.cons_left
    obtain ⟨k', a3, rfl, hk, ha3⟩ := ha2.cons_left
    cases ha3.nil_left
    have hts0 : ts[0]? = some t := by rw [← Array.getElem?_toList, hts]; rfl
    split at hr
    · rename_i ti ht
      obtain ⟨it, hit, hut, -⟩ := tiOf_ok ht
      split at hr
      · rename_i kt et r hd
        rw [hd] at hut
        split at hr
        · rename_i tk htk
          obtain ⟨ik, hik, huk, -⟩ := tiOf_ok htk
          split at hr
          · rename_i es hkk ho
            split at hr
            · rename_i es2 hup
              simp only [Option.some.injEq, Prod.mk.injEq] at hr
              obtain ⟨rfl, rfl⟩ := hr
              obtain ⟨b, σ, κ, hp, rfl⟩ := hm.map_inv
              obtain ⟨ents, clock, hw, hl, hset⟩ := H.setMap ho hp
              have hck := run_checkKeyN (w := w) huk hkk ents.isEmpty 10000 (by omega) k'
              rcases del_ok hk 0 hl hup with ⟨hf, rfl⟩ | ⟨j, v, hf, hj, rfl⟩
              · refine ⟨φ, _, _, ?_, φ.le_refl, VRel.undef, hset _ ents clock hl⟩
                simp only [Builtin.delete_, hts0, List.getElem?_toArray, List.getElem?_cons_zero, List.getElem?_cons_succ, Sem.run_bind, run_underlying hut, Result.andThen_ok, run_getObj' hw]
                rw [hck]
                simp only [Result.andThen_ok, run_findKey' huk hf, Sem.run_bind, run_setObj' _ hw, Sem.run_pure]
                rfl
              · refine ⟨φ, _, _, ?_, φ.le_refl, VRel.undef, hset _ (ents.eraseIdxIfInBounds j) clock (by
                  rw [Array.toList_eraseIdxIfInBounds]; exact L2.eraseIdx j hl)⟩
                simp only [Nat.zero_add] at hf
                simp only [Builtin.delete_, hts0, List.getElem?_toArray, List.getElem?_cons_zero, List.getElem?_cons_succ, Sem.run_bind, run_underlying hut, Result.andThen_ok, run_getObj' hw]
                rw [hck]
                simp only [Result.andThen_ok, run_findKey' huk hf, Sem.run_bind, run_setObj' _ hw, Sem.run_pure]
                rfl
            · cases hr
          · cases hr
        · cases hr
      · cases hr
    · cases hr
  · cases hr

end Go.Abs
