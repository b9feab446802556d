/- Every operation that is no call of a function, held against the model's. -/
import Derived.Test.YtgdkekdedgkglaaBkApp
open Go.RowKit
namespace Go.Abs
variable {B0 : Nat} {w0 : World} {φ : Map} {h h' : AW} {w : World} {P : Program}

theorem append_tail {ts : Array TypeId} {ty tS tX elem : TypeId} {s' x' : Value} {base' : Option Addr} {sLen sCap' n : Nat} {ie : TypeInfo} {dX : TypeDesc} (hts : ts.toList = [tS, tX])
    (hs' : s' = .slice base' sLen sCap') (hu : P.underlying tS = some (.slice elem)) (hie : P.info? elem = some ie) (hx : P.underlying tX = some dX) (hni : isInt dX = false) (hlen : (Builtin.lenOf x').run P w = .ok n w) :
    (Builtin.append_ ts ty ⟨[s', x']⟩).run P w = (appendTail elem ie.size sLen sCap' n s' base' x' false (Builtin.firstCells ie.size n x')).run P w := by
  have h0 : ts[0]? = some tS := by rw [← Array.getElem?_toList, hts]; rfl
  have h1 : ts[1]? = some tX := by rw [← Array.getElem?_toList, hts]; rfl
  subst hs'
  cases dX
  case int => simp [isInt] at hni
  all_goals
    unfold Builtin.append_ appendTail
    simp only [h0, h1, List.getElem?_toArray, List.getElem?_cons_zero, List.getElem?_cons_succ, Sem.run_bind, run_underlying hu, Result.andThen_ok, run_sizeOf' hie, run_underlying hx, Sem.run_pure,
      Bool.false_eq_true, if_false, hlen, Bool.not_false, if_true, false_or]
    rfl

theorem append_tailZ {ts : Array TypeId} {ty tS tX elem : TypeId} {s' : Value} {base' : Option Addr} {sLen sCap' n : Nat} {ie : TypeInfo} {z : Value} (hts : ts.toList = [tS, tX])
    (hs' : s' = .slice base' sLen sCap') (hu : P.underlying tS = some (.slice elem)) (hie : P.info? elem = some ie) (hx : P.underlying tX = some (.int .i64)) (hn : n ≤ 9223372036854775807) (hb : n * ie.bytes ≤ 281474976710656) :
    (Builtin.append_ ts ty ⟨[s', .int .i64 (n : Int)]⟩).run P w = (appendTail elem ie.size sLen sCap' n s' base' (.int .i64 (n : Int)) true (if n * ie.size = 0 then pure #[] else do pure (Builtin.zeroCells (← zeroValue elem).cells n))).run P w := by
  have h0 : ts[0]? = some tS := by rw [← Array.getElem?_toList, hts]; rfl
  have h1 : ts[1]? = some tX := by rw [← Array.getElem?_toList, hts]; rfl
  subst hs'
  have w1 := wrap_nat hn
  have hb' : ¬ ((n : Int) * (ie.bytes : Int) > 2 ^ 48) := by
    rw [show (2 : Int) ^ 48 = 281474976710656 by decide]
    have : ((n * ie.bytes : Nat) : Int) ≤ 281474976710656 := by omega
    rw [Int.natCast_mul] at this
    omega
  have hn0 : ¬ ((n : Int) < 0) := by omega
  unfold Builtin.append_ appendTail
  simp only [h0, h1, List.getElem?_toArray, List.getElem?_cons_zero, List.getElem?_cons_succ, Sem.run_bind, run_underlying hu, Result.andThen_ok, run_sizeOf' hie, run_underlying hx, Sem.run_pure, if_true, asInt, asIntOf, w1]
  rw [if_neg hn0]
  simp only [Sem.run_bind, run_typeInfo' hie, Result.andThen_ok]
  rw [if_neg hb']
  simp only [Sem.run_bind, Sem.run_pure, Result.andThen_ok, Int.toNat_natCast, Bool.not_true, Bool.false_eq_true, if_false]
  rfl

theorem append_ok (H : HRel B0 w0 φ h w) {ts : Array TypeId} {ty : TypeId} {args args' : List Value} {v : Value} (ha : LRel φ args args') (hr : appendB P h ts args = some (v, h')) : Out B0 w0 φ (Builtin.append_ ts ty ⟨args'⟩) P w v h' := by
  unfold appendB at hr
  split at hr
  · rename_i tS tX s x hts
    obtain ⟨s', a2, rfl, hs, ha2⟩ := ha.cons_left
    obtain ⟨x', a3, rfl, hx, ha3⟩ := ha2.cons_left
    cases ha3.nil_left
    split at hr
    · rename_i ti tj hti htj
      obtain ⟨it, hit, hut, -⟩ := tiOf_ok hti
      obtain ⟨ij, hij, huj, -⟩ := tiOf_ok htj
      split at hr
      · rename_i elem hdu
        rw [hdu] at hut
        split at hr
        · rename_i te hte
          obtain ⟨ie, hie, hue, _, hsz, hby, hz⟩ := tiOf_ok hte
          have hslice : ∃ base' sLen sCap', s' = .slice base' sLen sCap' := by
            have : ∃ b l c, s = .slice b l c := by
              have aux : ∀ {n : Nat} {new : List Value} {r}, appendV P h elem s n new = some r → ∃ b l c, s = .slice b l c := by
                intro n new r hh
                unfold appendV at hh
                split at hh
                · exact ⟨_, _, _, rfl⟩
                · cases hh
              repeat' split at hr
              all_goals first | exact aux hr | cases hr
            obtain ⟨b, l, c, rfl⟩ := this
            cases hs with
            | sliceN => exact ⟨_, _, _, rfl⟩
            | slice => exact ⟨_, _, _, rfl⟩
          obtain ⟨base', sLen, sCap', hs'⟩ := hslice
          split at hr
          · rename_i hni
            split at hr
            · rename_i n c
              cases hx.sliceN_inv
              split at hr
              · rename_i hb
                have := beq_true hb; subst this
                unfold Out
                rw [append_tail hts hs' hut hie huj hni (n := 0) rfl]
                exact appendTail_ok H hs hs' hie ⟨rfl, rfl⟩ L2.nil hr
              · cases hr
            · rename_i i off n c
              obtain ⟨_, b, σ, κ, off', hp, hσ, ho, rfl⟩ := hx.slice_inv
              split at hr
              · rename_i l hl
                unfold Out
                rw [append_tail hts hs' hut hie huj hni (n := n) rfl]
                obtain ⟨l', hlr, hlen, hrun⟩ := loadCells_ok (P := P) H hp hl
                obtain ⟨l2, hlr2, hlen2, hrun2⟩ := loadCells_ok (P := P) H.drew hp hl
                have e2 : l2 = l' := by
                  have h1 : (loadCells ⟨b, off - σ, none⟩ (n * te.size)).run P w.drew = .ok ⟨l'⟩ w.drew := by
                    obtain ⟨hl3, _, l3, hlr3, hc3⟩ := H.rdN hp hl
                    have r1 := run_loadCells_list (P := P) w ⟨b, off - σ, none⟩ l3 (fun j v hv => by rw [Addr.add_lit]; exact hc3 j v hv)
                    have r2 := run_loadCells_list (P := P) w.drew ⟨b, off - σ, none⟩ l3 (fun j v hv => by rw [Addr.add_lit]; exact hc3 j v hv)
                    rw [← hlr3.1, hl3] at r1 r2
                    rw [hrun] at r1
                    cases r1
                    exact r2
                  rw [hrun2] at h1
                  cases h1; rfl
                subst e2
                refine appendTail_ok H hs hs' hie ⟨?_, ?_⟩ hlr hr
                · simp only [Builtin.firstCells, ← hsz]
                  rcases ho with h | ⟨h1, _⟩
                  · rw [h]; exact hrun
                  · subst h1
                    have : l2 = [] := List.eq_nil_of_length_eq_zero (by simpa using hlen)
                    subst this; simp [loadCells, loadCellsFrom]
                · simp only [Builtin.firstCells, ← hsz]
                  rcases ho with h | ⟨h1, _⟩
                  · rw [h]; exact hrun2
                  · subst h1
                    have : l2 = [] := List.eq_nil_of_length_eq_zero (by simpa using hlen)
                    subst this; simp [loadCells, loadCellsFrom]
              · cases hr
            · rename_i b
              cases hx.string_inv
              unfold Out
              rw [append_tail hts hs' hut hie huj hni (n := b.size) rfl]
              have hc : ((b.extract 0 b.size).data.map fun b => Value.int .u8 (b.toNat : Int)) = ⟨ofBytes b.data.toList⟩ := by
                apply Array.ext'
                simp [ofBytes, ByteArray.data_extract]
              exact appendTail_ok H hs hs' hie ⟨by simp only [Builtin.firstCells, Sem.run_pure, hc], by simp only [Builtin.firstCells, Sem.run_pure, hc]⟩ (ofBytes_rel _) hr
            · cases hr
          · split at hr
            · rename_i n z hzz hju
              cases hx.int_inv
              obtain ⟨hz1, hz2, hz3⟩ := hz z hzz
              rw [hju] at huj
              split at hr
              · rename_i hb
                simp only [Bool.and_eq_true] at hb
                have b1 := ble_true hb.1
                have b2 := ble_true hb.2
                unfold Out
                rw [show (Value.int .i64 (Int.ofNat n)) = .int .i64 (n : Int) from rfl, append_tailZ (z := z) hts hs' hut hie huj b2 (by rw [← hby]; exact b1)]
                have app : ∀ w : World, ((if n * ie.size = 0 then pure #[] else do pure (Builtin.zeroCells (← zeroValue elem).cells n) : Sem (Array Value))).run P w = .ok ⟨rep z.cells.toList n⟩ w := by
                  intro w
                  split
                  · rename_i h0
                    have : rep z.cells.toList n = [] := List.eq_nil_of_length_eq_zero (by rw [rep_length]; simp [hz3, hsz, h0])
                    rw [this]
                    rfl
                  · simp only [Sem.run_bind, run_zeroValue' hie hz1, Result.andThen_ok, Sem.run_pure]
                    unfold Builtin.zeroCells
                    rw [rep_range]
                exact appendTail_ok H hs hs' hie ⟨app _, app _⟩ (rep_flat hz2 n) hr
              · cases hr
            · cases hr
        · cases hr
      · cases hr
    · cases hr
  · cases hr

theorem builtinA_ok (H : HRel B0 w0 φ h w) {b : Builtin} {ts : Array TypeId} {ty : TypeId} {cs : Array Bool} {args args' : List Value} {v : Value} (ha : LRel φ args args') (hr : builtinA P h b ts args = some (v, h')) :
    ∃ ψ v' w', (builtin b ts ty cs ⟨args'⟩).run P w = .ok (.value v') w' ∧ φ.le ψ ∧ VRel ψ v v' ∧ HRel B0 w0 ψ h' w' := by
  unfold builtinA at hr
  split at hr
  · obtain ⟨ψ, v', w', h1, h2⟩ := append_ok (P := P) (ty := ty) H ha hr
    exact ⟨ψ, v', w', by simp only [builtin, Sem.run_bind, h1, Result.andThen_ok, Sem.run_pure], h2⟩
  · obtain ⟨ψ, v', w', h1, h2⟩ := copy_ok (P := P) (ty := ty) H ha hr
    exact ⟨ψ, v', w', by simp only [builtin, Sem.run_bind, h1, Result.andThen_ok, Sem.run_pure], h2⟩
  · obtain ⟨ψ, v', w', h1, h2⟩ := delete_ok (P := P) (ty := ty) H ha hr
    exact ⟨ψ, v', w', by simp only [builtin, Sem.run_bind, h1, Result.andThen_ok, Sem.run_pure], h2⟩
  · obtain ⟨ψ, v', w', h1, h2⟩ := clear_ok (P := P) (ty := ty) H ha hr
    exact ⟨ψ, v', w', by simp only [builtin, Sem.run_bind, h1, Result.andThen_ok, Sem.run_pure], h2⟩
  · cases hr

/-- What the model's operation ends in: a value, or nothing (then the slot holds 'undef'). -/
def Gives (s : Sem Next) (P : Program) (w : World) (v' : Value) (w' : World) : Prop := s.run P w = .ok (.value v') w' ∨ (v' = undef ∧ s.run P w = .ok .skip w')

theorem execOp_buildSlice (ρ : Operand → Value) (dst : Option Tmp) (t : TypeId) (len : Nat) (parts : Array (Nat × Operand)) (type : TypeId) (pos : String) (after : Array Edge) (guard : Option (Nat × Bool)) :
    execOp ρ ⟨dst, .buildSlice t len parts, type, pos, after, guard⟩ = (do pure (Next.value (← Instr.buildSlice t len (parts.map fun p => (p.1, ρ p.2)))) : Sem Next) := by
  have h : parts.map (fun p => (p.1, ρ p.2)) = parts.map (fun (i, x) => (i, ρ x)) := rfl
  rw [h]
  rfl

set_option maxHeartbeats 1000000 in
theorem opA_ok (H : HRel B0 w0 φ h w) {F : Fr} {ρ : Operand → Value} {o : Oper} {v : Value} (hv : Rev φ F ρ o.op.operands.toList) (hr : opA P F h o.op = some (v, h')) :
    ∃ ψ v' w', Gives (execOp ρ o) P w v' w' ∧ φ.le ψ ∧ VRel ψ v v' ∧ HRel B0 w0 ψ h' w' := by
  obtain ⟨dst, op, type, pos, after, guard⟩ := o
  simp only at hv hr
  have Q : ∀ (s : Sem Value), execOp ρ ⟨dst, op, type, pos, after, guard⟩ = (do pure (Next.value (← s)) : Sem Next) → Out B0 w0 φ s P w v h' →
      ∃ ψ v' w', Gives (execOp ρ ⟨dst, op, type, pos, after, guard⟩) P w v' w' ∧ φ.le ψ ∧ VRel ψ v v' ∧ HRel B0 w0 ψ h' w' := by
    rintro s hs ⟨ψ, v', w', h1, h2⟩
    rw [hs]
    exact ⟨ψ, v', w', .inl (by simp only [Sem.run_bind, h1, Result.andThen_ok, Sem.run_pure]), h2⟩
  unfold opA at hr
  split at hr
  · rename_i t
    split at hr
    · rename_i ti ht
      split at hr
      · rename_i z hz
        split at hr
        · rename_i i h2 hn
          simp only [Option.some.injEq, Prod.mk.injEq] at hr
          obtain ⟨rfl, rfl⟩ := hr
          exact Q (Instr.alloc t true (.tuple #[])) rfl (alloc_ok H ht hz hn)
        · cases hr
      · cases hr
    · cases hr
  · rename_i t x
    split at hr
    · rename_i i h2 hn
      simp only [Option.some.injEq, Prod.mk.injEq] at hr
      obtain ⟨rfl, rfl⟩ := hr
      exact Q (Instr.box t (ρ x)) rfl (box_ok H (hv x (by simp [Op.operands])) hn)
    · cases hr
  · rename_i t len parts
    have hp : L2 (fun (p q : Nat × Value) => p.1 = q.1 ∧ VRel φ p.2 q.2) (parts.toList.map fun p => (p.1, F.ev p.2)) (parts.map fun p => (p.1, ρ p.2)).toList := by
      rw [Array.toList_map]
      exact hv.pairs (fun p hp => by simp only [Op.operands]; simp; exact ⟨p.1, by simpa using hp⟩)
    have ho := buildSlice_ok (P := P) H hp hr
    have Q2 := Q (Instr.buildSlice t len (parts.map fun p => (p.1, ρ p.2))) (execOp_buildSlice ..)
    exact Q2 ho
  · rename_i t a x
    split at hr
    · rename_i h2 hs
      simp only [Option.some.injEq, Prod.mk.injEq] at hr
      obtain ⟨rfl, rfl⟩ := hr
      obtain ⟨w', h1, h3⟩ := storeV_ok (P := P) H (hv a (by simp [Op.operands])) (hv x (by simp [Op.operands])) hs
      exact ⟨φ, undef, w', .inr ⟨rfl, by simp only [execOp, Sem.run_bind, h1, Result.andThen_ok, Sem.run_pure]⟩, φ.le_refl, VRel.undef, h3⟩
    · cases hr
  · rename_i s d x
    exact Q (convert s d (ρ x)) rfl (convA_ok H (hv x (by simp [Op.operands])) hr)
  · rename_i t
    simp only [Option.some.injEq, Prod.mk.injEq] at hr
    obtain ⟨rfl, rfl⟩ := hr
    obtain ⟨ψ, h1, h2, h3⟩ := H.newMap
    refine Q (Instr.makeMap t none) rfl ⟨ψ, .map (some w.heap.size), _, ?_, h1, .map h2, h3⟩
    simp [Instr.makeMap]
  · rename_i t x
    split at hr
    · rename_i ti k n ht hx
      obtain ⟨it, hit, hut, -⟩ := tiOf_ok ht
      split at hr
      · rename_i kt et hd
        rw [hd] at hut
        simp only [Option.some.injEq, Prod.mk.injEq] at hr
        obtain ⟨rfl, rfl⟩ := hr
        obtain ⟨ψ, h1, h2, h3⟩ := H.newMap
        have hxr := hv x (by simp [Op.operands])
        rw [hx] at hxr
        refine Q (Instr.makeMap t (some (ρ x))) rfl ⟨ψ, .map (some w.heap.size), _, ?_, h1, .map h2, h3⟩
        simp [Instr.makeMap, hxr.int_inv, run_underlying hut, asInt, asIntOf]
      · cases hr
    · cases hr
  · rename_i t l c
    exact Q (Instr.makeSlice t (ρ l) (ρ c)) rfl (makeSlice_ok H (hv l (by simp [Op.operands])) (hv c (by simp [Op.operands])) hr)
  · rename_i t x lo hi mx
    exact Q (Instr.sliceAt t (ρ x) (lo.map ρ) (hi.map ρ) (some (ρ mx))) rfl (sliceA_ok H (hv x (by simp [Op.operands])) (hv.opt (x := lo) (fun y hy => by subst hy; simp [Op.operands])) (hv.opt (x := hi) (fun y hy => by subst hy; simp [Op.operands])) (hv mx (by simp [Op.operands])) hr)
  · rename_i t m k x
    split at hr
    · rename_i h2 hs
      simp only [Option.some.injEq, Prod.mk.injEq] at hr
      obtain ⟨rfl, rfl⟩ := hr
      obtain ⟨w', h1, h3⟩ := mapUpd_ok (P := P) H (hv m (by simp [Op.operands])) (hv k (by simp [Op.operands])) (hv x (by simp [Op.operands])) hs
      exact ⟨φ, undef, w', .inr ⟨rfl, by simp only [execOp, Sem.run_bind, h1, Result.andThen_ok, Sem.run_pure]⟩, φ.le_refl, VRel.undef, h3⟩
    · cases hr
  · rename_i t m k x
    split at hr
    · rename_i h2 hs
      simp only [Option.some.injEq, Prod.mk.injEq] at hr
      obtain ⟨rfl, rfl⟩ := hr
      obtain ⟨w', h1, h3⟩ := mapUpd_ok (P := P) H (hv m (by simp [Op.operands])) (hv k (by simp [Op.operands])) (hv x (by simp [Op.operands])) hs
      exact ⟨φ, undef, w', .inr ⟨rfl, by simp only [execOp, Sem.run_bind, h1, Result.andThen_ok, Sem.run_pure]⟩, φ.le_refl, VRel.undef, h3⟩
    · cases hr
  · rename_i b args ats
    obtain ⟨ψ, v', w', h1, h2⟩ := builtinA_ok (P := P) (ty := type) (cs := args.map fun | .const _ => true | _ => false) H (hv.vals (m := args) (fun x hx => by simpa [Op.operands, Call.operands] using hx)) hr
    refine ⟨ψ, v', w', .inl ?_, h2⟩
    simp only [execOp, resolve, Sem.run_bind, Sem.run_pure, Result.andThen_ok, invoke]
    exact h1
  · cases hr

theorem opV_ok (H : HRel B0 w0 φ h w) {F : Fr} {ρ : Operand → Value} {o : Oper} {v : Value} (hv : Rev φ F ρ o.op.operands.toList) (hr : opV P F h o.op = some (v, h')) :
    ∃ ψ v' w', Gives (execOp ρ o) P w v' w' ∧ φ.le ψ ∧ VRel ψ v v' ∧ HRel B0 w0 ψ h' w' := by
  unfold opV at hr
  split at hr
  · rename_i v2 hq
    simp only [Option.some.injEq, Prod.mk.injEq] at hr
    obtain ⟨rfl, rfl⟩ := hr
    obtain ⟨v', h1, h2⟩ := opQ_ok H hv hq
    exact ⟨φ, v', w, .inl h1, φ.le_refl, h2, H⟩
  · exact opA_ok H hv hr

end Go.Abs
