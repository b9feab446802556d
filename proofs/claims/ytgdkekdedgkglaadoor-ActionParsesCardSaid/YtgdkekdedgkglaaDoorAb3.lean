/- A deterministic heap for the model, proved sound, and walks of the program over it: part 3. No condition. -/
import Derived.Test.YtgdkekdedgkglaaDoorAb2
import Derived.Lib.UnsafeStr
import Derived.Test.YtgdkekdedgkglaaDoorAb1
import Derived.LoopN
import Derived.Scope
set_option linter.unusedVariables false
set_option linter.unusedSimpArgs false
set_option linter.unusedSectionVars false
section
/- Every operation that is no call of a function, held against the model's. -/
open Go.RowKit
namespace Go.Abs
variable {B0 : Zn} {w0 : World} {φ : Map} {h h' : AW} {w : World} {P : Program}

theorem append_tail {ts : Array TypeId} {ty tS tX elem : TypeId} {s' x' : Value} {base' : Option Addr} {sLen sCap' n : Nat} {ie : TypeInfo} {dX : TypeDesc} (hts : ts.toList = [tS, tX])
    (hs' : s' = .slice base' sLen sCap') (hu : P.underlying tS = some (.slice elem)) (hie : P.info? elem = some ie) (hx : P.underlying tX = some dX) (hni : isInt dX = false) (hlen : (Builtin.lenOf x').run P w = .ok n w) :
    (Builtin.append_ ts ty ⟨[s', x']⟩).run P w = (appendTail elem ie.size sLen sCap' n s' base' x' false (Builtin.firstCells ie.size n x')).run P w := by
  have h0 : ts[0]? = some tS := by rw [← Array.getElem?_toList, hts]; rfl
  have h1 : ts[1]? = some tX := by rw [← Array.getElem?_toList, hts]; rfl
  subst hs'
  cases dX
  case int => simp [isInt] at hni
  all_goals
    unfold Builtin.append_ appendTail
    simp only [h0, h1, List.getElem?_toArray, List.getElem?_cons_zero, List.getElem?_cons_succ, Sem.run_bind, run_underlying hu, Result.andThen_ok, run_sizeOf' hie, run_underlying hx, Sem.run_pure,
      Bool.false_eq_true, if_false, hlen, Bool.not_false, if_true, false_or]
    rfl

theorem append_tailZ {ts : Array TypeId} {ty tS tX elem : TypeId} {s' : Value} {base' : Option Addr} {sLen sCap' n : Nat} {ie : TypeInfo} {z : Value} (hts : ts.toList = [tS, tX])
    (hs' : s' = .slice base' sLen sCap') (hu : P.underlying tS = some (.slice elem)) (hie : P.info? elem = some ie) (hx : P.underlying tX = some (.int .i64)) (hn : n ≤ 9223372036854775807) (hb : n * ie.bytes ≤ 281474976710656) :
    (Builtin.append_ ts ty ⟨[s', .int .i64 (n : Int)]⟩).run P w = (appendTail elem ie.size sLen sCap' n s' base' (.int .i64 (n : Int)) true (if n * ie.size = 0 then pure #[] else do pure (Builtin.zeroCells (← zeroValue elem).cells n))).run P w := by
  have h0 : ts[0]? = some tS := by rw [← Array.getElem?_toList, hts]; rfl
  have h1 : ts[1]? = some tX := by rw [← Array.getElem?_toList, hts]; rfl
  subst hs'
  have w1 := wrap_nat hn
  have hb' : ¬ ((n : Int) * (ie.bytes : Int) > 2 ^ 48) := by
    rw [show (2 : Int) ^ 48 = 281474976710656 by decide]
    have : ((n * ie.bytes : Nat) : Int) ≤ 281474976710656 := by omega
    rw [Int.natCast_mul] at this
    omega
  have hn0 : ¬ ((n : Int) < 0) := by omega
  unfold Builtin.append_ appendTail
  simp only [h0, h1, List.getElem?_toArray, List.getElem?_cons_zero, List.getElem?_cons_succ, Sem.run_bind, run_underlying hu, Result.andThen_ok, run_sizeOf' hie, run_underlying hx, Sem.run_pure, if_true, asInt, asIntOf, w1]
  rw [if_neg hn0]
  simp only [Sem.run_bind, run_typeInfo' hie, Result.andThen_ok]
  rw [if_neg hb']
  simp only [Sem.run_bind, Sem.run_pure, Result.andThen_ok, Int.toNat_natCast, Bool.not_true, Bool.false_eq_true, if_false]
  rfl

theorem append_ok (H : HRel B0 w0 φ h w) {ts : Array TypeId} {ty : TypeId} {args args' : List Value} {v : Value} (ha : LRel φ args args') (hr : appendB P h ts args = some (v, h')) : Out B0 w0 φ (Builtin.append_ ts ty ⟨args'⟩) P w v h' := by
  unfold appendB at hr
  split at hr
  · rename_i tS tX s x hts
    obtain ⟨s', a2, rfl, hs, ha2⟩ := ha.cons_left
    obtain ⟨x', a3, rfl, hx, ha3⟩ := ha2.cons_left
    cases ha3.nil_left
    split at hr
    · rename_i ti tj hti htj
      obtain ⟨it, hit, hut, -⟩ := tiOf_ok hti
      obtain ⟨ij, hij, huj, -⟩ := tiOf_ok htj
      split at hr
      · rename_i elem hdu
        rw [hdu] at hut
        split at hr
        · rename_i te hte
          obtain ⟨ie, hie, hue, _, hsz, hby, hz⟩ := tiOf_ok hte
          have hslice : ∃ base' sLen sCap', s' = .slice base' sLen sCap' := by
            have : ∃ b l c, s = .slice b l c := by
              have aux : ∀ {n : Nat} {new : List Value} {r}, appendV P h elem s n new = some r → ∃ b l c, s = .slice b l c := by
                intro n new r hh
                unfold appendV at hh
                split at hh
                · exact ⟨_, _, _, rfl⟩
                · cases hh
              repeat' split at hr
              all_goals first | exact aux hr | cases hr
            obtain ⟨b, l, c, rfl⟩ := this
            cases hs with
            | sliceN => exact ⟨_, _, _, rfl⟩
            | slice => exact ⟨_, _, _, rfl⟩
          obtain ⟨base', sLen, sCap', hs'⟩ := hslice
          split at hr
          · rename_i hni
            split at hr
            · rename_i n c
              cases hx.sliceN_inv
              split at hr
              · rename_i hb
                have := beq_true hb; subst this
                unfold Out
                rw [append_tail hts hs' hut hie huj hni (n := 0) rfl]
                exact appendTail_ok H hs hs' hie ⟨rfl, rfl⟩ L2.nil hr
              · cases hr
            · rename_i i off n c
              obtain ⟨_, b, σ, κ, a', hp, hσ, ho, rfl⟩ := hx.slice_inv
              split at hr
              · rename_i l hl
                unfold Out
                rw [append_tail hts hs' hut hie huj hni (n := n) rfl]
                obtain ⟨l', hlr, hlen, hrun⟩ := loadCells_ok (P := P) H hp hl
                obtain ⟨l2, hlr2, hlen2, hrun2⟩ := loadCells_ok (P := P) H.drew hp hl
                have e2 : l2 = l' := by
                  have h1 : (loadCells ⟨b, off - σ, none⟩ (n * te.size)).run P w.drew = .ok ⟨l'⟩ w.drew := by
                    obtain ⟨hl3, _, l3, hlr3, hc3⟩ := H.rdN hp hl
                    have r1 := run_loadCells_list (P := P) w ⟨b, off - σ, none⟩ l3 (fun j v hv => by rw [Addr.add_lit]; exact hc3 j v hv)
                    have r2 := run_loadCells_list (P := P) w.drew ⟨b, off - σ, none⟩ l3 (fun j v hv => by rw [Addr.add_lit]; exact hc3 j v hv)
                    rw [← hlr3.1, hl3] at r1 r2
                    rw [hrun] at r1
                    cases r1
                    exact r2
                  rw [hrun2] at h1
                  cases h1; rfl
                subst e2
                refine appendTail_ok H hs hs' hie ⟨?_, ?_⟩ hlr hr
                · simp only [Builtin.firstCells, ← hsz]
                  rcases ho with h | ⟨h1, _⟩
                  · rw [h]; exact hrun
                  · subst h1
                    have : l2 = [] := List.eq_nil_of_length_eq_zero (by simpa using hlen)
                    subst this; simp [loadCells, loadCellsFrom]
                · simp only [Builtin.firstCells, ← hsz]
                  rcases ho with h | ⟨h1, _⟩
                  · rw [h]; exact hrun2
                  · subst h1
                    have : l2 = [] := List.eq_nil_of_length_eq_zero (by simpa using hlen)
                    subst this; simp [loadCells, loadCellsFrom]
              · cases hr
            · rename_i b
              cases hx.string_inv
              unfold Out
              rw [append_tail hts hs' hut hie huj hni (n := b.size) rfl]
              have hc : ((b.extract 0 b.size).data.map fun b => Value.int .u8 (b.toNat : Int)) = ⟨ofBytes b.data.toList⟩ := by
                apply Array.ext'
                simp [ofBytes, ByteArray.data_extract]
              exact appendTail_ok H hs hs' hie ⟨by simp only [Builtin.firstCells, Sem.run_pure, hc], by simp only [Builtin.firstCells, Sem.run_pure, hc]⟩ (ofBytes_rel _) hr
            · cases hr
          · split at hr
            · rename_i n z hzz hju
              cases hx.int_inv
              obtain ⟨hz1, hz2, hz3⟩ := hz z hzz
              rw [hju] at huj
              split at hr
              · rename_i hb
                simp only [Bool.and_eq_true] at hb
                have b1 := ble_true hb.1
                have b2 := ble_true hb.2
                unfold Out
                rw [show (Value.int .i64 (Int.ofNat n)) = .int .i64 (n : Int) from rfl, append_tailZ (z := z) hts hs' hut hie huj b2 (by rw [← hby]; exact b1)]
                have app : ∀ w : World, ((if n * ie.size = 0 then pure #[] else do pure (Builtin.zeroCells (← zeroValue elem).cells n) : Sem (Array Value))).run P w = .ok ⟨rep z.cells.toList n⟩ w := by
                  intro w
                  split
                  · rename_i h0
                    have : rep z.cells.toList n = [] := List.eq_nil_of_length_eq_zero (by rw [rep_length]; simp [hz3, hsz, h0])
                    rw [this]
                    rfl
                  · simp only [Sem.run_bind, run_zeroValue' hie hz1, Result.andThen_ok, Sem.run_pure]
                    unfold Builtin.zeroCells
                    rw [rep_range]
                exact appendTail_ok H hs hs' hie ⟨app _, app _⟩ (rep_flat hz2 n) hr
              · cases hr
            · cases hr
        · cases hr
      · cases hr
    · cases hr
  · cases hr

theorem run_loadBytesI (w : World) : ∀ (ns : List Int) (a : Addr) (acc : ByteArray), (∀ (j : Nat) x, ns[j]? = some x → w.cell? (a.add j) = some (.int .u8 x)) →
    (loadBytes a acc ns.length).run P w = .ok ⟨acc.data ++ (ns.map fun n => UInt8.ofNat n.toNat).toArray⟩ w
  | [], a, acc, _ => by simp [loadBytes]
  | x :: l, a, acc, h => by
    have h0 : w.cell? a = some (.int .u8 x) := by
      have := h 0 x rfl
      simpa [Addr.add] using this
    have ih := run_loadBytesI w l (a.add 1) (acc.push (UInt8.ofNat x.toNat)) (fun j y hy => by
      have := h (j + 1) y (by simpa using hy)
      have e : (a.add 1).add j = a.add (j + 1) := by
        unfold Addr.add
        by_cases hj : j = 0
        · subst hj; simp
        · simp [hj]; omega
      rw [e]; exact this)
    have hx : x.toNat.toUInt8 = UInt8.ofNat x.toNat := rfl
    simp only [List.length_cons, loadBytes, Sem.run_bind, run_load, h0, Result.andThen, hx]
    rw [ih]
    congr 1
    apply ByteArray.ext
    simp [ByteArray.push]
theorem run_unsafeStringI (w : World) (pt it ty e : TypeId) (hp : P.underlying pt = some (.pointer e)) (hc : P.cellsOf e = 1) (g cells : Nat) (hsh : w.shape? g = some (e, cells)) (l : List Int) (h0 : l ≠ []) (hn : l.length ≤ cells) (h63 : l.length ≤ 9223372036854775807)
    (hcell : ∀ (j : Nat) x, l[j]? = some x → w.cell? ((⟨g, 0, none⟩ : Addr).add j) = some (.int .u8 x)) :
    (Builtin.unsafeString_ #[pt, it] ty #[.pointer (some ⟨g, 0, none⟩), .int .i64 l.length]).run P w = .ok (.string ⟨⟨l.map fun n => UInt8.ofNat n.toNat⟩⟩) (w.freeze ⟨g, 0, none⟩ l.length) := by
  have hl : l.length ≠ 0 := by simpa using h0
  have hlb := run_loadBytesI (P := P) w l ⟨g, 0, none⟩ .empty hcell
  have hlies := Lib.liesAt_bytes (P := P) hc (cells / P.cellsOf e) l.length (by rw [hc]; simpa using hn)
  have h63' : ¬ (9223372036854775807 : Int) < (l.length : Int) := by omega
  have hdef : Builtin.unsafeString_ #[pt, it] ty #[.pointer (some ⟨g, 0, none⟩), .int .i64 l.length] =
      (do
        let n ← asInt (.int .i64 l.length)
        if n < 0 then runtimePanic (.error "unsafe.String: len out of range")
        if n > IntKind.i64.max then unsupported (.unsafePointer "String: a length above the largest int")
        if n = 0 then pure (.string .empty)
        else if ← variablesAt ⟨g, 0, none⟩ (← elemOf pt) n.toNat then do
          let s ← loadBytes ⟨g, 0, none⟩ .empty n.toNat
          freeze ⟨g, 0, none⟩ n.toNat
          pure (.string s)
        else unsupported (.unsafePointer "String: not so many bytes at ptr")) := rfl
  rw [hdef]
  have hmax : IntKind.i64.max = 9223372036854775807 := rfl
  have hneg : ¬ (l.length : Int) < 0 := by omega
  simp [asInt, asIntOf, hmax, h63', hneg, hl, variablesAt, hsh, elemOf, run_underlying hp, hlies, hlb]
theorem ustr_ok (H : HRel B0 w0 φ h w) {ts : Array TypeId} {ty : TypeId} {args args' : List Value} {v : Value} (ha : LRel φ args args') (hr : ustrB P h ts args = some (v, h')) : Out B0 w0 φ (Builtin.unsafeString_ ts ty ⟨args'⟩) P w v h' := by
  unfold ustrB at hr
  split at hr
  · rename_i pt it p n hts
    have hts : ts = #[pt, it] := by rw [← Array.toList_inj]; exact hts
    subst hts
    obtain ⟨x1, t1, rfl, hx, ht1⟩ := L2.cons_left ha
    obtain ⟨x2, t2, rfl, hy, ht2⟩ := L2.cons_left ht1
    cases ht2.nil_left
    cases hy.int_inv
    split at hr
    · rename_i hn0
      have hn0 := beq_true hn0
      subst hn0
      simp only [Option.some.injEq, Prod.mk.injEq] at hr
      obtain ⟨rfl, rfl⟩ := hr
      refine ⟨φ, .string .empty, w, ?_, φ.le_refl, .string _, H⟩
      cases hx with
      | ptrN => exact Lib.run_unsafeString_none w pt it ty none
      | ptr h1 h2 => exact Lib.run_unsafeString_none w pt it ty _
    · rename_i hn0
      split at hr
      · rename_i i off hn63
        split at hr
        · rename_i ti t hoff hti hty
          have hoff := beq_true hoff
          subst hoff
          split at hr
          · rename_i e hund
            split at hr
            · rename_i te hte0 hte
              have hte0 := beq_true hte0
              subst hte0
              split at hr
              · rename_i l hsz hl
                have hsz := beq_true hsz
                split at hr
                · rename_i bs h2 hbs hfg
                  simp only [Option.some.injEq, Prod.mk.injEq] at hr
                  obtain ⟨rfl, rfl⟩ := hr
                  obtain ⟨it2, hit2, hut, -⟩ := tiOf_ok hti
                  rw [hund] at hut
                  obtain ⟨ie, hie, _, _, hszE, _⟩ := tiOf_ok hte
                  have hcE : P.cellsOf t = 1 := by unfold Program.cellsOf; rw [hie]; simp [← hszE, hsz]
                  cases hx with
                  | ptr hp hσ =>
                    rename_i b σ κ
                    have hσ : σ = 0 := by omega
                    subst hσ
                    obtain ⟨hlen, -, l', hll, hcells⟩ := H.rdN hp hl
                    obtain ⟨ns, rfl, rfl⟩ := bytesV_ok hbs
                    have hl' := LRel_ints hll
                    subst hl'
                    have hnn : ns.length = n := by simpa using hlen
                    obtain ⟨hlt, hblk⟩ := H.ty i t hty
                    obtain ⟨c, fz, hblk⟩ := hblk b 0 κ hp
                    have hn1 : n ≠ 0 := by intro e; subst e; simp at hn0
                    have hcell : ∀ (j : Nat) x, ns[j]? = some x → w.cell? ((⟨b, 0, none⟩ : Addr).add j) = some (.int .u8 x) := by
                      intro j x hj
                      have := hcells j (.int .u8 x) (by rw [List.getElem?_map, hj]; rfl)
                      rw [Addr.add_lit]
                      simpa using this
                    have hsize : ns.length ≤ c.size := by
                      rcases Nat.lt_or_ge c.size ns.length with hlt2 | hge
                      · have := hcell c.size ns[c.size] (List.getElem?_eq_getElem hlt2)
                        rw [Addr.add_lit] at this
                        simp only [World.cell?, hblk] at this
                        simp at this
                      · exact hge
                    have hrun := run_unsafeStringI (P := P) w pt it ty t hut hcE b c.size (by simp [World.shape?, hblk]) ns (by intro e; rw [e] at hnn; simp at hnn; omega) hsize (by rw [hnn]; exact ble_true hn63) hcell
                    rw [hnn] at hrun
                    refine ⟨φ, _, _, ?_, φ.le_refl, .string _, H.forget (a := ⟨b, 0, none⟩) hp hfg rfl n⟩
                    exact hrun
                · cases hr
              · cases hr
            · cases hr
          · cases hr
        · cases hr
      · cases hr
  · cases hr

theorem builtinA_ok (H : HRel B0 w0 φ h w) {b : Builtin} {ts : Array TypeId} {ty : TypeId} {cs : Array Bool} {args args' : List Value} {v : Value} (ha : LRel φ args args') (hr : builtinA P h b ts args = some (v, h')) :
    ∃ ψ v' w', (builtin b ts ty cs ⟨args'⟩).run P w = .ok (.value v') w' ∧ φ.le ψ ∧ VRel ψ v v' ∧ HRel B0 w0 ψ h' w' := by
  unfold builtinA at hr
  split at hr
  · obtain ⟨ψ, v', w', h1, h2⟩ := append_ok (P := P) (ty := ty) H ha hr
    exact ⟨ψ, v', w', by simp only [builtin, Sem.run_bind, h1, Result.andThen_ok, Sem.run_pure], h2⟩
  · obtain ⟨ψ, v', w', h1, h2⟩ := copy_ok (P := P) (ty := ty) H ha hr
    exact ⟨ψ, v', w', by simp only [builtin, Sem.run_bind, h1, Result.andThen_ok, Sem.run_pure], h2⟩
  · obtain ⟨ψ, v', w', h1, h2⟩ := delete_ok (P := P) (ty := ty) H ha hr
    exact ⟨ψ, v', w', by simp only [builtin, Sem.run_bind, h1, Result.andThen_ok, Sem.run_pure], h2⟩
  · obtain ⟨ψ, v', w', h1, h2⟩ := clear_ok (P := P) (ty := ty) H ha hr
    exact ⟨ψ, v', w', by simp only [builtin, Sem.run_bind, h1, Result.andThen_ok, Sem.run_pure], h2⟩
  · obtain ⟨ψ, v', w', h1, h2⟩ := ustr_ok (P := P) (ty := ty) H ha hr
    exact ⟨ψ, v', w', by simp only [builtin, Sem.run_bind, h1, Result.andThen_ok, Sem.run_pure], h2⟩
  · cases hr

/-- What the model's operation ends in: a value, or nothing (then the slot holds 'undef'). -/
def Gives (s : Sem Next) (P : Program) (w : World) (v' : Value) (w' : World) : Prop := s.run P w = .ok (.value v') w' ∨ (v' = undef ∧ s.run P w = .ok .skip w')

theorem execOp_buildSlice (ρ : Operand → Value) (dst : Option Tmp) (t : TypeId) (len : Nat) (parts : Array (Nat × Operand)) (type : TypeId) (pos : String) (after : Array Edge) (guard : Option (Nat × Bool)) :
    execOp ρ ⟨dst, .buildSlice t len parts, type, pos, after, guard⟩ = (do pure (Next.value (← Instr.buildSlice t len (parts.map fun p => (p.1, ρ p.2)))) : Sem Next) := by
  have h : parts.map (fun p => (p.1, ρ p.2)) = parts.map (fun (i, x) => (i, ρ x)) := rfl
  rw [h]
  rfl

/-- What only makes a new object, whatever the world. -/
theorem new_run {F : Fr} {ρ : Operand → Value} {o : Oper} {v : Value} (hnew : (∃ t, o.op = .alloc t) ∨ ∃ t len parts, o.op = .buildSlice t len parts) (hv : Rev φ F ρ o.op.operands.toList) (hr : opA P F h o.op = some (v, h')) :
    ∃ i cells cells' e, ∃ f : Nat → Value, h.newVar cells = some (i, h') ∧ LRel φ cells cells' ∧ (∀ (ψ : Map) b, ψ i = some (b, 0, 0) → VRel ψ v (f b)) ∧
      ∀ w, (execOp ρ o).run P w = .ok (.value (f w.heap.size)) (w.alloc (.cells ⟨cells'⟩ e)) := by
  obtain ⟨dst, op, type, pos, after, guard⟩ := o
  simp only at hv hr hnew
  rcases hnew with ⟨t, rfl⟩ | ⟨t, len, parts, rfl⟩
  · simp only [opA] at hr
    split at hr
    · rename_i ti ht
      split at hr
      · rename_i z hz
        split at hr
        · rename_i i h2 hn
          simp only [Option.some.injEq, Prod.mk.injEq] at hr
          obtain ⟨rfl, rfl⟩ := hr
          obtain ⟨it, hit, hut, _, _, _, hzz⟩ := tiOf_ok ht
          obtain ⟨hz1, hz2, hz3⟩ := hzz z hz
          refine ⟨i, _, z.cells.toList, t, fun b => .pointer (some ⟨b, 0, none⟩), hn, (flat_rel hz2).cells, fun ψ b hb => VRel.ptr hb (Nat.zero_le _), fun w => ?_⟩
          have hex : execOp ρ ⟨dst, .alloc t, type, pos, after, guard⟩ = (do pure (Next.value (← Instr.alloc t true (.tuple #[]))) : Sem Next) := rfl
          rw [hex]
          simp only [Instr.alloc, Sem.run_bind, run_zeroValue' hit hz1, Result.andThen_ok, run_newVar', Sem.run_pure]
        · cases hr
      · cases hr
    · cases hr
  · simp only [opA] at hr
    have hp : L2 (fun (p q : Nat × Value) => p.1 = q.1 ∧ VRel φ p.2 q.2) (parts.toList.map fun p => (p.1, F.ev p.2)) (parts.map fun p => (p.1, ρ p.2)).toList := by
      rw [Array.toList_map]
      exact hv.pairs (fun p hp => by simp only [Op.operands]; simp; exact ⟨p.1, by simpa using hp⟩)
    obtain ⟨i, cells, cells', e, hn, hl, hvv, hrun⟩ := buildSlice_run (P := P) hp hr
    refine ⟨i, cells, cells', e, fun b => .slice (some ⟨b, 0, none⟩) len (len + 0), hn, hl, hvv, fun w => ?_⟩
    rw [execOp_buildSlice]
    simp only [Sem.run_bind, hrun, Result.andThen_ok, Sem.run_pure]

set_option maxHeartbeats 1000000 in
theorem opA_ok (H : HRel B0 w0 φ h w) {F : Fr} {ρ : Operand → Value} {o : Oper} {v : Value} (hv : Rev φ F ρ o.op.operands.toList) (hr : opA P F h o.op = some (v, h')) :
    ∃ ψ v' w', Gives (execOp ρ o) P w v' w' ∧ φ.le ψ ∧ VRel ψ v v' ∧ HRel B0 w0 ψ h' w' := by
  obtain ⟨dst, op, type, pos, after, guard⟩ := o
  simp only at hv hr
  have Q : ∀ (s : Sem Value), execOp ρ ⟨dst, op, type, pos, after, guard⟩ = (do pure (Next.value (← s)) : Sem Next) → Out B0 w0 φ s P w v h' →
      ∃ ψ v' w', Gives (execOp ρ ⟨dst, op, type, pos, after, guard⟩) P w v' w' ∧ φ.le ψ ∧ VRel ψ v v' ∧ HRel B0 w0 ψ h' w' := by
    rintro s hs ⟨ψ, v', w', h1, h2⟩
    rw [hs]
    exact ⟨ψ, v', w', .inl (by simp only [Sem.run_bind, h1, Result.andThen_ok, Sem.run_pure]), h2⟩
  unfold opA at hr
  split at hr
  · rename_i t
    split at hr
    · rename_i ti ht
      split at hr
      · rename_i z hz
        split at hr
        · rename_i i h2 hn
          simp only [Option.some.injEq, Prod.mk.injEq] at hr
          obtain ⟨rfl, rfl⟩ := hr
          exact Q (Instr.alloc t true (.tuple #[])) rfl (alloc_ok H ht hz hn)
        · cases hr
      · cases hr
    · cases hr
  · rename_i t x
    split at hr
    · rename_i i h2 hn
      simp only [Option.some.injEq, Prod.mk.injEq] at hr
      obtain ⟨rfl, rfl⟩ := hr
      exact Q (Instr.box t (ρ x)) rfl (box_ok H (hv x (by simp [Op.operands])) hn)
    · cases hr
  · rename_i t len parts
    have hp : L2 (fun (p q : Nat × Value) => p.1 = q.1 ∧ VRel φ p.2 q.2) (parts.toList.map fun p => (p.1, F.ev p.2)) (parts.map fun p => (p.1, ρ p.2)).toList := by
      rw [Array.toList_map]
      exact hv.pairs (fun p hp => by simp only [Op.operands]; simp; exact ⟨p.1, by simpa using hp⟩)
    have ho := buildSlice_ok (P := P) H hp hr
    have Q2 := Q (Instr.buildSlice t len (parts.map fun p => (p.1, ρ p.2))) (execOp_buildSlice ..)
    exact Q2 ho
  · rename_i t a x
    split at hr
    · rename_i h2 hs
      simp only [Option.some.injEq, Prod.mk.injEq] at hr
      obtain ⟨rfl, rfl⟩ := hr
      obtain ⟨w', h1, h3⟩ := storeV_ok (P := P) H (hv a (by simp [Op.operands])) (hv x (by simp [Op.operands])) hs
      exact ⟨φ, undef, w', .inr ⟨rfl, by simp only [execOp, Sem.run_bind, h1, Result.andThen_ok, Sem.run_pure]⟩, φ.le_refl, VRel.undef, h3⟩
    · cases hr
  · rename_i s d x
    exact Q (convert s d (ρ x)) rfl (convA_ok H (hv x (by simp [Op.operands])) hr)
  · rename_i t
    simp only [Option.some.injEq, Prod.mk.injEq] at hr
    obtain ⟨rfl, rfl⟩ := hr
    obtain ⟨ψ, h1, h2, h3⟩ := H.newMap
    refine Q (Instr.makeMap t none) rfl ⟨ψ, .map (some w.heap.size), _, ?_, h1, .map h2, h3⟩
    simp [Instr.makeMap]
  · rename_i t x
    split at hr
    · rename_i ti k n ht hx
      obtain ⟨it, hit, hut, -⟩ := tiOf_ok ht
      split at hr
      · rename_i kt et hd
        rw [hd] at hut
        simp only [Option.some.injEq, Prod.mk.injEq] at hr
        obtain ⟨rfl, rfl⟩ := hr
        obtain ⟨ψ, h1, h2, h3⟩ := H.newMap
        have hxr := hv x (by simp [Op.operands])
        rw [hx] at hxr
        refine Q (Instr.makeMap t (some (ρ x))) rfl ⟨ψ, .map (some w.heap.size), _, ?_, h1, .map h2, h3⟩
        simp [Instr.makeMap, hxr.int_inv, run_underlying hut, asInt, asIntOf]
      · cases hr
    · cases hr
  · rename_i t l c
    exact Q (Instr.makeSlice t (ρ l) (ρ c)) rfl (makeSlice_ok H (hv l (by simp [Op.operands])) (hv c (by simp [Op.operands])) hr)
  · rename_i t x lo hi mx
    exact Q (Instr.sliceAt t (ρ x) (lo.map ρ) (hi.map ρ) (some (ρ mx))) rfl (sliceA_ok H (hv x (by simp [Op.operands])) (hv.opt (x := lo) (fun y hy => by subst hy; simp [Op.operands])) (hv.opt (x := hi) (fun y hy => by subst hy; simp [Op.operands])) (hv mx (by simp [Op.operands])) hr)
  · rename_i t m k x
    split at hr
    · rename_i h2 hs
      simp only [Option.some.injEq, Prod.mk.injEq] at hr
      obtain ⟨rfl, rfl⟩ := hr
      obtain ⟨w', h1, h3⟩ := mapUpd_ok (P := P) H (hv m (by simp [Op.operands])) (hv k (by simp [Op.operands])) (hv x (by simp [Op.operands])) hs
      exact ⟨φ, undef, w', .inr ⟨rfl, by simp only [execOp, Sem.run_bind, h1, Result.andThen_ok, Sem.run_pure]⟩, φ.le_refl, VRel.undef, h3⟩
    · cases hr
  · rename_i t m k x
    split at hr
    · rename_i h2 hs
      simp only [Option.some.injEq, Prod.mk.injEq] at hr
      obtain ⟨rfl, rfl⟩ := hr
      obtain ⟨w', h1, h3⟩ := mapUpd_ok (P := P) H (hv m (by simp [Op.operands])) (hv k (by simp [Op.operands])) (hv x (by simp [Op.operands])) hs
      exact ⟨φ, undef, w', .inr ⟨rfl, by simp only [execOp, Sem.run_bind, h1, Result.andThen_ok, Sem.run_pure]⟩, φ.le_refl, VRel.undef, h3⟩
    · cases hr
  · rename_i b args ats
    obtain ⟨ψ, v', w', h1, h2⟩ := builtinA_ok (P := P) (ty := type) (cs := args.map fun | .const _ => true | _ => false) H (hv.vals (m := args) (fun x hx => by simpa [Op.operands, Call.operands] using hx)) hr
    refine ⟨ψ, v', w', .inl ?_, h2⟩
    simp only [execOp, resolve, Sem.run_bind, Sem.run_pure, Result.andThen_ok, invoke]
    exact h1
  · cases hr

theorem opV_ok (H : HRel B0 w0 φ h w) {F : Fr} {ρ : Operand → Value} {o : Oper} {v : Value} (hv : Rev φ F ρ o.op.operands.toList) (hr : opV P F h o.op = some (v, h')) :
    ∃ ψ v' w', Gives (execOp ρ o) P w v' w' ∧ φ.le ψ ∧ VRel ψ v v' ∧ HRel B0 w0 ψ h' w' := by
  unfold opV at hr
  split at hr
  · rename_i v2 hq
    simp only [Option.some.injEq, Prod.mk.injEq] at hr
    obtain ⟨rfl, rfl⟩ := hr
    obtain ⟨v', h1, h2⟩ := opQ_ok H hv hq
    exact ⟨φ, v', w, .inl h1, φ.le_refl, h2, H⟩
  · exact opA_ok H hv hr

end Go.Abs
end

section
/- Code and calls: what the deterministic semantics comes to, the model comes to. -/
open Go.RowKit
namespace Go.Abs
variable {B0 : Zn} {w0 : World} {φ : Map} {h h' : AW} {w : World} {P : Program}

def FRel (φ : Map) (F : Fr) (a : Act) : Prop := a.tmps.size = F.n ∧ ∀ t, VRel φ (F.ev (.tmp t)) (a.eval (.tmp t))
def Glob (P : Program) (φ : Map) : Prop := ∀ g, g < P.globals.size → φ g = some (g, 0, 0)

theorem FRel.mono {ψ : Map} {F : Fr} {a : Act} (hm : φ.le ψ) (h : FRel φ F a) : FRel ψ F a := ⟨h.1, fun t => (h.2 t).mono hm⟩
theorem Glob.mono {ψ : Map} (hm : φ.le ψ) (h : Glob P φ) : Glob P ψ := fun g hg => hm _ _ (h g hg)

theorem ev_ok {F : Fr} {a : Act} (hF : FRel φ F a) (hG : Glob P φ) {x : Operand} (hx : operandOk P.globals.size x = true) : VRel φ (F.ev x) (a.eval x) := by
  cases x with
  | tmp t => exact hF.2 t
  | const v => exact flat_rel hx
  | global g => exact VRel.ptr (off := 0) (hG g (ble_true hx)) (Nat.zero_le _)
  | func f => exact VRel.func' _ L2.nil L2.nil

theorem operandsOk_spec {G : Nat} : ∀ {l : List Operand}, operandsOk G l = true → ∀ x, x ∈ l → operandOk G x = true
  | [], _, x, hx => by simp at hx
  | y :: l, h, x, hx => by
    simp only [operandsOk, Bool.and_eq_true] at h
    rcases List.mem_cons.1 hx with rfl | hm
    · exact h.1
    · exact operandsOk_spec h.2 x hm
theorem opersOk_spec {G : Nat} : ∀ {l : List Oper}, opersOk G l = true → ∀ o, o ∈ l → operandsOk G o.op.operands.toList = true
  | [], _, x, hx => by simp at hx
  | y :: l, h, x, hx => by
    simp only [opersOk, Bool.and_eq_true] at h
    rcases List.mem_cons.1 hx with rfl | hm
    · exact h.1
    · exact opersOk_spec h.2 x hm

theorem rev_ok {F : Fr} {a : Act} (hF : FRel φ F a) (hG : Glob P φ) {o : Oper} (ho : operandsOk P.globals.size o.op.operands.toList = true) : Rev φ F a.eval o.op.operands.toList :=
  fun x hx => ev_ok hF hG (operandsOk_spec ho x hx)

theorem put_ok {F F' : Fr} {a : Act} {d : Option Tmp} {v v' : Value} (hF : FRel φ F a) (hp : F.put d v = some F') (hv : VRel φ v v') : FRel φ F' (a.put d v') := by
  unfold Fr.put at hp
  cases d with
  | none => simp only [Option.some.injEq] at hp; subst hp; exact hF
  | some d =>
    simp only at hp
    split at hp
    · rename_i hb
      simp only [Option.some.injEq] at hp; subst hp
      have hlt := ble_true hb
      refine ⟨by simpa [Act.put] using hF.1, fun t => ?_⟩
      by_cases htd : t = d
      · subst htd
        simp only [Fr.ev, T.get?_set_same, Act.put, Act.eval]
        rw [Array.getD_eq_getD_getElem?, Array.getElem?_setIfInBounds_self, if_pos (by rw [hF.1]; omega)]
        exact hv
      · have := hF.2 t
        simp only [Fr.ev, T.get?_set_ne _ _ htd, Act.put, Act.eval] at this ⊢
        rw [Array.getD_eq_getD_getElem?, Array.getElem?_setIfInBounds_ne (Ne.symm htd), ← Array.getD_eq_getD_getElem?]
        exact this
    · cases hp

theorem guard_ok {F : Fr} {a : Act} {ops : Array Oper} {o : Oper} {b : Bool} (hF : FRel φ F a) (hg : guardOk ops.toList F o = some b) : Region.wanted o (yielded ops a.tmps) = b := by
  unfold guardOk at hg
  unfold Region.wanted
  split at hg
  · rename_i he
    simp only [Option.some.injEq] at hg; subst hg
    rw [he]
  · rename_i j want he
    rw [he]
    simp only
    unfold yielded
    split at hg
    · rename_i oj hoj
      have hoj' : ops[j]? = some oj := by simpa using hoj
      rw [hoj']
      simp only [Option.bind_some]
      split at hg
      · rename_i d hd
        rw [hd]
        simp only [Option.bind_some]
        have hr := hF.2 d
        simp only [Fr.ev, Act.eval] at hr
        have conc : ∀ v, a.tmps.getD d undef = v → ∀ c, v = .bool c → a.tmps[d]? = some (.bool c) := by
          intro v hv c hc
          rw [Array.getD_eq_getD_getElem?] at hv
          cases hx : a.tmps[d]? with
          | none => rw [hx] at hv; simp only [Option.getD_none] at hv; rw [hc] at hv; cases hv
          | some u => rw [hx] at hv; simp only [Option.getD_some] at hv; rw [hv, hc]
        split at hg
        · rename_i c hc
          rw [hc] at hr
          simp only [Option.some.injEq] at hg; subst hg
          have := conc _ hr.bool_inv c rfl
          rw [this]
          cases c <;> cases want <;> rfl
        · rename_i hnb
          simp only [Option.some.injEq] at hg; subst hg
          have hne : ∀ c, a.tmps[d]? ≠ some (.bool c) := by
            intro c hc
            have hgd : a.tmps.getD d undef = .bool c := by rw [Array.getD_eq_getD_getElem?, hc]; rfl
            rw [hgd] at hr
            cases hx : F.t.get? d with
            | none => rw [hx] at hr; cases hr
            | some u => rw [hx] at hr; simp only at hr; cases hr; exact hnb c hx
          cases hx : a.tmps[d]? with
          | none => cases want <;> rfl
          | some u =>
            rw [hx] at hne
            cases u <;> first | (exact absurd rfl (hne _)) | (cases want <;> rfl)
      · rename_i hd
        rw [hd]
        simp only [Option.some.injEq] at hg; subst hg
        cases want <;> rfl
    · rename_i hoj
      have hoj' : ops[j]? = none := by simpa using hoj
      rw [hoj']
      simp only [Option.some.injEq] at hg; subst hg
      cases want <;> rfl

/-- What is asked of whatever answers the calls. -/
def CallOk (P : Program) (B0 : Zn) (w0 : World) (call : FuncId → List Value → AW → Option (Value × AW)) : Prop :=
  ∀ f args h v h', call f args h = some (v, h') → (∃ fn c, P.funcs[f]? = some fn ∧ fn.body = some c ∧ (fn.name == "runtime.NumGoroutine") = false) ∧
    ∀ (φ : Map) (w : World) (args' : List Value), LRel φ args args' → HRel B0 w0 φ h w → Glob P φ →
      Calls P f ⟨args'⟩ w fun e w' => ∃ ψ v', φ.le ψ ∧ e = .returned v' ∧ VRel ψ v v' ∧ HRel B0 w0 ψ h' w'

/-- One operation, whatever it is, on the way. -/
theorem step_ok {call : FuncId → List Value → AW → Option (Value × AW)} (hcall : CallOk P B0 w0 call) {ops : Array Oper} {o : Oper} {F F' : Fr} {a : Act} (hok : operandsOk P.globals.size o.op.operands.toList = true)
    (hF : FRel φ F a) (H : HRel B0 w0 φ h w) (hG : Glob P φ) (hs : stepOp P call ops.toList o F h = some (F', h')) (K : Act → World → Prop) (Q : Exit → Act → World → Prop)
    (hK : ∀ ψ a' w', φ.le ψ → FRel ψ F' a' → HRel B0 w0 ψ h' w' → a'.defers = a.defers → K a' w') :
    if Region.wanted o (yielded ops a.tmps) then o.wp P a w K Q else K (a.put o.dst undef) w := by
  have hdef : ∀ d v, (a.put d v).defers = a.defers := fun d v => by cases d <;> rfl
  unfold stepOp at hs
  split at hs
  · rename_i hg
    rw [guard_ok hF hg, if_pos rfl]
    split at hs
    · rename_i v h2 hv
      split at hs
      · rename_i F2 hput
        simp only [Option.some.injEq, Prod.mk.injEq] at hs
        obtain ⟨rfl, rfl⟩ := hs
        split at hv
        · rename_i f args ats hop
          split at hv
          · rename_i fid cargs ht
            unfold target at ht
            simp only at ht
            split at ht
            · rename_i f' first captured hfe
              simp only [Option.some.injEq, Prod.mk.injEq] at ht
              obtain ⟨rfl, rfl⟩ := ht
              obtain ⟨⟨fn, c, hfn, hbody, hname⟩, hcalls⟩ := hcall _ _ _ _ _ hv
              rw [hop] at hok
              have hf := ev_ok hF hG (operandsOk_spec hok f (by simp [Op.operands, Call.operands]))
              rw [hfe] at hf
              obtain ⟨first', captured', hfc, hl1, hl2⟩ := hf.func_inv
              have hargs : LRel φ (vals F args) (args.map a.eval).toList := by
                rw [Array.toList_map]
                exact L2.self_map fun x hx => ev_ok hF hG (operandsOk_spec hok x (by simp [Op.operands, Call.operands]; exact .inr (by simpa using hx)))
              have hall : LRel φ (first.toList ++ (vals F args ++ captured.toList)) (first'.toList ++ ((args.map a.eval).toList ++ captured'.toList)) := hl1.append (hargs.append hl2)
              have hC := hcalls φ w _ hall H hG
              have hrun : (execOp a.eval o).run P w = .ok (.enter f' ⟨first'.toList ++ ((args.map a.eval).toList ++ captured'.toList)⟩) w := by
                have harr : (first' ++ args.map a.eval ++ captured' : Array Value) = ⟨first'.toList ++ ((args.map a.eval).toList ++ captured'.toList)⟩ := by
                  apply Array.ext'; simp
                simp only [execOp, hop, resolve, hfc, Deferred.ofValue, Sem.run_bind, Sem.run_pure, Result.andThen_ok, invoke, callFunc, run_program, hfn, hname, Bool.false_eq_true, if_false, hbody, Option.isNone_some, harr]
              unfold Oper.wp
              rw [hrun, Oper.upon_enter]
              refine hC.mono fun e w' he => ?_
              obtain ⟨ψ, v', hle, rfl, hvr, H'⟩ := he
              exact hK ψ _ w' hle (put_ok (hF.mono hle) hput hvr) H' (hdef _ _)
            · cases ht
          · cases hv
        · obtain ⟨ψ, v', w', hgives, hle, hvr, H'⟩ := opV_ok H (rev_ok hF hG hok) hv
          have hfin := hK ψ (a.put o.dst v') w' hle (put_ok (hF.mono hle) hput hvr) H' (hdef _ _)
          unfold Oper.wp
          rcases hgives with hg1 | ⟨rfl, hg1⟩
          · rw [hg1, Oper.upon_value]; exact hfin
          · rw [hg1, Oper.upon_skip]; exact hfin
      · cases hs
    · cases hs
  · rename_i hg
    rw [guard_ok hF hg, if_neg (by simp)]
    split at hs
    · rename_i F2 hput
      simp only [Option.some.injEq, Prod.mk.injEq] at hs
      obtain ⟨rfl, rfl⟩ := hs
      exact hK φ _ w φ.le_refl (put_ok hF hput VRel.undef) H (hdef _ _)
    · cases hs
  · cases hs

theorem runOps_ok {call : FuncId → List Value → AW → Option (Value × AW)} (hcall : CallOk P B0 w0 call) {ops : Array Oper} (hok : opersOk P.globals.size ops.toList = true) {Q : Exit → Act → World → Prop} :
    ∀ (l : List Oper) (k : Nat) (φ : Map) (F F' : Fr) (h h' : AW) (a : Act) (w : World), (∀ i, l[i]? = ops[k + i]?) → runOps P call ops.toList l F h = some (F', h') → FRel φ F a → HRel B0 w0 φ h w → Glob P φ →
      (∀ ψ a' w', φ.le ψ → FRel ψ F' a' → HRel B0 w0 ψ h' w' → a'.defers = a.defers → Q .normal a' w') → wpOps P ops Q (List.range' k l.length) a w
  | [], k, φ, F, F', h, h', a, w, _, hr, hF, H, hG, hQ => by
    simp only [runOps, Option.some.injEq, Prod.mk.injEq] at hr
    obtain ⟨rfl, rfl⟩ := hr
    exact hQ φ a w φ.le_refl hF H rfl
  | o :: l, k, φ, F, F', h, h', a, w, hl, hr, hF, H, hG, hQ => by
    simp only [runOps] at hr
    split at hr
    · rename_i F1 h1 hs
      have hk : ops[k]? = some o := by have := hl 0; simpa using this.symm
      have hmem : o ∈ ops.toList := by
        have : ops.toList[k]? = some o := by simpa using hk
        exact List.mem_of_getElem? this
      have := step_ok hcall (ops := ops) (opersOk_spec hok o hmem) hF H hG hs (wpOps P ops Q (List.range' (k + 1) l.length)) Q
        (fun ψ a' w' hle hF' H' hd => runOps_ok hcall hok l (k + 1) ψ F1 F' h1 h' a' w' (fun i => by have := hl (i + 1); rw [show k + 1 + i = k + (i + 1) from by omega]; simpa using this) hr hF' H' (hG.mono hle)
          (fun ψ' a'' w'' hle' hF'' H'' hd' => hQ ψ' a'' w'' (Map.le_trans hle hle') hF'' H'' (hd'.trans hd)))
      rw [List.length_cons, List.range'_succ]
      simp only [wpOps, hk]
      split at this
      · rename_i hw
        rw [if_pos hw]
        exact .inl this
      · rename_i hw
        rw [if_neg hw]
        exact this
    · cases hr

def Ex.toExit : Ex → Exit
  | .normal => .normal
  | .exit id => .exit id
  | .ret => .ret

/-- What a drawn region must give: whatever the order, the end of the text's own. -/
def DrawnOk (P : Program) (B0 : Zn) (w0 : World) (call : FuncId → List Value → AW → Option (Value × AW)) : Prop :=
  ∀ (ops : Array Oper) (F F' : Fr) (h h' : AW), runDrawn P call ops F h = some (F', h') → opersOk P.globals.size ops.toList = true → P.follows .mixedOrders = true →
    ∀ (φ : Map) (a : Act) (w : World), FRel φ F a → HRel B0 w0 φ h w → Glob P φ → ∀ (id : Nat) (Q : Exit → Act → World → Prop),
      (∀ ψ a' w', φ.le ψ → FRel ψ F' a' → HRel B0 w0 ψ h' w' → a'.defers = a.defers → Q .normal a' w') → (Code.region id ops true).wp P Q a w

theorem run_ok {call : FuncId → List Value → AW → Option (Value × AW)} (hcall : CallOk P B0 w0 call) (hdrawn : DrawnOk P B0 w0 call) (hmix : P.follows .mixedOrders = true) : ∀ (n : Nat),
    (∀ (c : Code) (F F' : Fr) (h h' : AW) (e : Ex), run P call n c F h = some (e, F', h') → codeOk P.globals.size c = true → ∀ (φ : Map) (a : Act) (w : World), FRel φ F a → HRel B0 w0 φ h w → Glob P φ →
      ∀ (Q : Exit → Act → World → Prop), (∀ ψ a' w', φ.le ψ → FRel ψ F' a' → HRel B0 w0 ψ h' w' → a'.defers = a.defers → Q e.toExit a' w') → c.wp P Q a w) ∧
    (∀ (b : Code) (F F' : Fr) (h h' : AW) (e : Ex), run P call n (.loop b) F h = some (e, F', h') → codeOk P.globals.size b = true → ∀ (φ : Map) (a : Act) (w : World), FRel φ F a → HRel B0 w0 φ h w → Glob P φ →
      ∀ (Q : Exit → Act → World → Prop), (∀ ψ a' w', φ.le ψ → FRel ψ F' a' → HRel B0 w0 ψ h' w' → a'.defers = a.defers → Q e.toExit a' w') → Code.rounds P b Q n a w) := by
  intro n
  induction n with
  | zero => exact ⟨fun c F F' h h' e hr => by simp [run] at hr, fun b F F' h h' e hr => by simp [run] at hr⟩
  | succ n ih =>
    obtain ⟨ihA, ihB⟩ := ih
    have B : ∀ (b : Code) (F F' : Fr) (h h' : AW) (e : Ex), run P call (n + 1) (.loop b) F h = some (e, F', h') → codeOk P.globals.size b = true → ∀ (φ : Map) (a : Act) (w : World), FRel φ F a → HRel B0 w0 φ h w → Glob P φ →
      ∀ (Q : Exit → Act → World → Prop), (∀ ψ a' w', φ.le ψ → FRel ψ F' a' → HRel B0 w0 ψ h' w' → a'.defers = a.defers → Q e.toExit a' w') → Code.rounds P b Q (n + 1) a w := by
      intro b F F' h h' e hr hok φ a w hF H hG Q hQ
      rw [rounds_succ]
      simp only [run] at hr
      split at hr
      · rename_i F1 h1 hb
        refine ihA b F F1 h h1 .normal hb hok φ a w hF H hG _ (fun ψ a' w' hle hF' H' hd => ?_)
        exact ihB b F1 F' h1 h' e hr hok ψ a' w' hF' H' (hG.mono hle) Q (fun ψ' a'' w'' hle' hF'' H'' hd' => hQ ψ' a'' w'' (Map.le_trans hle hle') hF'' H'' (hd'.trans hd))
      · rename_i hnn
        refine ihA b F F' h h' e hr hok φ a w hF H hG _ (fun ψ a' w' hle hF' H' hd => ?_)
        have hq := hQ ψ a' w' hle hF' H' hd
        cases e with
        | normal => exact absurd hr (hnn F' h')
        | exit id => exact hq
        | ret => exact hq
    refine ⟨?_, B⟩
    intro c F F' h h' e hr hok φ a w hF H hG Q hQ
    cases c with
    | skip =>
      simp only [run, Option.some.injEq, Prod.mk.injEq] at hr
      obtain ⟨rfl, rfl, rfl⟩ := hr
      exact wp_skip (hQ φ a w φ.le_refl hF H rfl)
    | label l =>
      simp only [run, Option.some.injEq, Prod.mk.injEq] at hr
      obtain ⟨rfl, rfl, rfl⟩ := hr
      exact wp_label (hQ φ a w φ.le_refl hF H rfl)
    | region id ops draw =>
      simp only [run] at hr
      cases draw with
      | false =>
        simp only at hr
        split at hr
        · rename_i F1 h1 hops
          simp only [Option.some.injEq, Prod.mk.injEq] at hr
          obtain ⟨rfl, rfl, rfl⟩ := hr
          have := runOps_ok hcall (ops := ops) (by simpa [codeOk] using hok) (Q := Q) ops.toList 0 φ F F1 h h1 a w (fun i => by simp) hops hF H hG hQ
          rw [Array.length_toList, ← List.range_eq_range'] at this
          exact wp_region this
        · cases hr
      | true =>
        simp only at hr
        split at hr
        · rename_i F1 h1 hops
          simp only [Option.some.injEq, Prod.mk.injEq] at hr
          obtain ⟨rfl, rfl, rfl⟩ := hr
          exact hdrawn ops F F1 h h1 hops (by simpa [codeOk] using hok) hmix φ a w hF H hG id Q hQ
        · cases hr
    | seq x y =>
      simp only [codeOk, Bool.and_eq_true] at hok
      simp only [run] at hr
      refine wp_seq ?_
      split at hr
      · rename_i F1 h1 hx
        refine ihA x F F1 h h1 .normal hx hok.1 φ a w hF H hG _ (fun ψ a' w' hle hF' H' hd => ?_)
        exact ihA y F1 F' h1 h' e hr hok.2 ψ a' w' hF' H' (hG.mono hle) Q (fun ψ' a'' w'' hle' hF'' H'' hd' => hQ ψ' a'' w'' (Map.le_trans hle hle') hF'' H'' (hd'.trans hd))
      · rename_i hnn
        refine ihA x F F' h h' e hr hok.1 φ a w hF H hG _ (fun ψ a' w' hle hF' H' hd => ?_)
        have hq := hQ ψ a' w' hle hF' H' hd
        cases e with
        | normal => exact absurd hr (hnn F' h')
        | exit id => exact hq
        | ret => exact hq
    | cond x y z =>
      simp only [codeOk, Bool.and_eq_true] at hok
      simp only [run] at hr
      have hx := ev_ok hF hG hok.1.1
      split at hr
      · rename_i he
        rw [he] at hx
        exact wp_cond_true hx.bool_inv (ihA y F F' h h' e hr hok.1.2 φ a w hF H hG Q hQ)
      · rename_i he
        rw [he] at hx
        exact wp_cond_false hx.bool_inv (ihA z F F' h h' e hr hok.2 φ a w hF H hG Q hQ)
      · cases hr
    | block id b =>
      simp only [codeOk] at hok
      simp only [run] at hr
      refine wp_block ?_
      split at hr
      · rename_i j F1 h1 hb
        split at hr
        · rename_i hj
          have := beq_true hj
          subst this
          simp only [Option.some.injEq, Prod.mk.injEq] at hr
          obtain ⟨rfl, rfl, rfl⟩ := hr
          refine ihA b F F1 h h1 (.exit j) hb hok φ a w hF H hG _ (fun ψ a' w' hle hF' H' hd => ?_)
          have hq := hQ ψ a' w' hle hF' H' hd
          simp only [Ex.toExit, Exit.inBlock, if_true]
          exact hq
        · rename_i hj
          simp only [Option.some.injEq, Prod.mk.injEq] at hr
          obtain ⟨rfl, rfl, rfl⟩ := hr
          refine ihA b F F1 h h1 (.exit j) hb hok φ a w hF H hG _ (fun ψ a' w' hle hF' H' hd => ?_)
          have hq := hQ ψ a' w' hle hF' H' hd
          have hne : j ≠ id := by rintro rfl; rw [Nat.beq_refl] at hj; cases hj
          simp only [Ex.toExit, Exit.inBlock, if_neg hne]
          exact hq
      · rename_i hnn
        refine ihA b F F' h h' e hr hok φ a w hF H hG _ (fun ψ a' w' hle hF' H' hd => ?_)
        have hq := hQ ψ a' w' hle hF' H' hd
        cases e with
        | normal => exact hq
        | exit id => exact absurd hr (hnn _ F' h')
        | ret => exact hq
    | loop b =>
      simp only [codeOk] at hok
      exact wp_loop_rounds (n + 1) (B b F F' h h' e hr hok φ a w hF H hG Q hQ)
    | exit id =>
      simp only [run, Option.some.injEq, Prod.mk.injEq] at hr
      obtain ⟨rfl, rfl, rfl⟩ := hr
      exact wp_exit (hQ φ a w φ.le_refl hF H rfl)
    | scope b =>
      simp only [codeOk] at hok
      simp only [run] at hr
      refine wp_scope_straight (ihA b F F' h h' e hr hok φ a w hF H hG _ (fun ψ a' w' hle hF' H' hd => ?_))
      have hq := hQ ψ a' w' hle hF' H' hd
      cases e <;> exact hq
    | ret =>
      simp only [run, Option.some.injEq, Prod.mk.injEq] at hr
      obtain ⟨rfl, rfl, rfl⟩ := hr
      exact wp_ret (hQ φ a w φ.le_refl hF H rfl)
    | rangeFunc f ps x y => simp [run] at hr
    | goto l => simp [run] at hr
    | refuse s => simp [run] at hr

theorem loadVar_ok (H : HRel B0 w0 φ h w) {t : TypeId} {x x' v : Value} (hx : VRel φ x x') (hl : loadV P h t x = some v) :
    ∃ v', (do loadVar t (← asAddr x') : Sem Value).run P w = .ok v' w ∧ VRel φ v v' := by
  obtain ⟨v', h1, h2⟩ := loadV_ok (P := P) H hx hl
  refine ⟨v', ?_, h2⟩
  unfold loadV at hl
  split at hl
  · obtain ⟨_, b, σ, κ, hp, hs, rfl⟩ := hx.ptr_inv
    simpa [Instr.loadAt, Instr.sureAddr, asAddr] using h1
  · cases hl

theorem results_ok (H : HRel B0 w0 φ h w) {F : Fr} {a : Act} (hF : FRel φ F a) : ∀ {rs : List ResultVar} {vs : List Value}, resultL P F h rs = some vs →
    ∃ vs', (rs.mapM (fun | .tmp t => pure (a.tmps.getD t undef) | .cell p t => do loadVar t (← asAddr (a.tmps.getD p undef))) : Sem (List Value)).run P w = .ok vs' w ∧ LRel φ vs vs'
  | [], vs, hr => by
    simp only [resultL, Option.some.injEq] at hr; subst hr
    exact ⟨[], rfl, L2.nil⟩
  | r :: rs, vs, hr => by
    simp only [resultL] at hr
    split at hr
    · rename_i v hv
      split at hr
      · rename_i vs2 hvs
        simp only [Option.some.injEq] at hr; subst hr
        obtain ⟨vs', h1, h2⟩ := results_ok H hF hvs
        have one : ∃ v', ((match r with | .tmp t => pure (a.tmps.getD t undef) | .cell p t => do loadVar t (← asAddr (a.tmps.getD p undef)) : Sem Value)).run P w = .ok v' w ∧ VRel φ v v' := by
          cases r with
          | tmp t =>
            simp only [resultV, Option.some.injEq] at hv; subst hv
            exact ⟨_, rfl, hF.2 t⟩
          | cell p t =>
            exact loadVar_ok H (hF.2 p) hv
        obtain ⟨v', h3, h4⟩ := one
        refine ⟨v' :: vs', ?_, L2.cons h4 h2⟩
        rw [List.mapM_cons]
        simp only [Sem.run_bind, h3, Result.andThen_ok, h1, Sem.run_pure]
      · cases hr
    · cases hr

theorem callF_ok (hdrawn : ∀ (call : FuncId → List Value → AW → Option (Value × AW)), (∀ B0 w0, CallOk P B0 w0 call) → ∀ B0 w0, DrawnOk P B0 w0 call) : ∀ n B0 w0, CallOk P B0 w0 (callF P n) := by
  intro n
  induction n with
  | zero => intro B0 w0 f args h v h' hr; simp [callF] at hr
  | succ n ih =>
    intro B0 w0 f args h v h' hr
    simp only [callF] at hr
    split at hr
    · rename_i fn c hb
      have hfacts : P.funcs[f]? = some fn ∧ fn.body = some c ∧ codeOk P.globals.size c = true ∧ (fn.name == "runtime.NumGoroutine") = false ∧ P.follows .mixedOrders = true := by
        unfold bodyOf at hb
        split at hb
        · rename_i fn2 hfn
          split at hb
          · rename_i c2 hc2
            split at hb
            · rename_i hx
              simp only [Option.some.injEq, Prod.mk.injEq] at hb
              obtain ⟨rfl, rfl⟩ := hb
              simp only [Bool.and_eq_true, Bool.not_eq_true'] at hx
              exact ⟨hfn, hc2, hx.1.1, hx.1.2, hx.2⟩
            · cases hb
          · cases hb
        · cases hb
      obtain ⟨hfn, hbody, hcode, hname, hmix⟩ := hfacts
      refine ⟨⟨fn, c, hfn, hbody, hname⟩, fun φ w args' hargs H hG => ?_⟩
      split at hr
      · cases hr
      · rename_i e F1 h1 hne hrun
        have hF : FRel φ { n := Nat.max args.length fn.ntmps, t := T.ofList args } { tmps := (⟨args'⟩ : Array Value) ++ Array.replicate (fn.ntmps - args'.length) undef, defers := [] } := by
          have hlen : args.length = args'.length := hargs.1
          refine ⟨?_, fun (t : Nat) => ?_⟩
          · simp only [Array.size_append, List.size_toArray, Array.size_replicate]
            show args'.length + (fn.ntmps - args'.length) = max args.length fn.ntmps
            omega
          simp only [Fr.ev, Act.eval, T.get?_ofList]
          rw [Array.getD_eq_getD_getElem?]
          by_cases ht : t < args.length
          · obtain ⟨v', hv', hr'⟩ := hargs.get (List.getElem?_eq_getElem ht)
            have ht' : t < args'.length := by omega
            rw [List.getElem?_eq_getElem ht, Array.getElem?_append_left (by simpa using ht')]
            simp only [List.getElem?_toArray, hv', Option.getD_some]
            exact hr'
          · rw [List.getElem?_eq_none (Nat.le_of_not_lt ht)]
            have : (((⟨args'⟩ : Array Value) ++ Array.replicate (fn.ntmps - args'.length) undef)[t]?).getD undef = undef := by
              rw [Array.getElem?_append_right (by simp; omega)]
              by_cases h2 : t - args'.length < fn.ntmps - args'.length
              · simp [h2]
              · simp [h2]
            rw [this]
            exact VRel.undef
        have hA := (run_ok (ih B0 w0) (hdrawn _ ih B0 w0) hmix n).1 c _ F1 h h1 e hrun hcode φ _ w hF H hG
          (bodyPost P fn fun e w' => ∃ ψ v', φ.le ψ ∧ e = .returned v' ∧ VRel ψ v v' ∧ HRel B0 w0 ψ h' w') (fun ψ a' w' hle hF' H' hd => by
            have res : ∃ v', (results fn a'.tmps).run P w' = .ok v' w' ∧ VRel ψ v v' ∧ h1 = h' := by
              have fin : ∀ vs vs', resultL P F1 h1 fn.results.toList = some vs → LRel ψ vs vs' →
                  ((fn.results.mapM (fun | .tmp t => pure (a'.tmps.getD t undef) | .cell p t => do loadVar t (← asAddr (a'.tmps.getD p undef))) : Sem (Array Value)).run P w' = .ok ⟨vs'⟩ w') →
                  (results fn a'.tmps).run P w' = .ok (if h : (⟨vs'⟩ : Array Value).size = 1 then (⟨vs'⟩ : Array Value)[0] else .tuple ⟨vs'⟩) w' := by
                intro vs vs' _ _ hm
                unfold results
                simp only [Sem.run_bind]
                refine Eq.trans (congrArg (fun r => Result.andThen r _) hm) ?_
                rfl
              split at hr
              · rename_i x hx
                simp only [Option.some.injEq, Prod.mk.injEq] at hr
                obtain ⟨rfl, rfl⟩ := hr
                obtain ⟨vs', hv1, hv2⟩ := results_ok (P := P) H' hF' hx
                obtain ⟨y, t, rfl, hy, ht⟩ := hv2.cons_left
                cases ht.nil_left
                have := fin _ _ hx hv2 (by rw [Array.mapM_eq_mapM_toList, Sem.run_map, hv1]; rfl)
                exact ⟨y, by simpa using this, hy, rfl⟩
              · rename_i vs hnot hx
                simp only [Option.some.injEq, Prod.mk.injEq] at hr
                obtain ⟨rfl, rfl⟩ := hr
                obtain ⟨vs', hv1, hv2⟩ := results_ok (P := P) H' hF' hx
                have := fin _ _ hx hv2 (by rw [Array.mapM_eq_mapM_toList, Sem.run_map, hv1]; rfl)
                have hlen : (⟨vs'⟩ : Array Value).size ≠ 1 := by
                  intro hl
                  have hl' : vs.length = 1 := by rw [hv2.1]; simpa using hl
                  match vs, hl' with
                  | [q], _ => exact hnot q rfl
                rw [dif_neg hlen] at this
                exact ⟨_, this, VRel.tuple' hv2, rfl⟩
              · cases hr
            obtain ⟨v', hv1, hv2, rfl⟩ := res
            cases e with
            | normal => exact ⟨hd, v', hv1, ψ, v', hle, rfl, hv2, H'⟩
            | exit id => exact absurd rfl (hne id)
            | ret => exact ⟨hd, v', hv1, ψ, v', hle, rfl, hv2, H'⟩)
        have := calls_of_wp (P := P) (f := f) (args := ⟨args'⟩) (R := fun e w' => ∃ ψ v', φ.le ψ ∧ e = .returned v' ∧ VRel ψ v v' ∧ HRel B0 w0 ψ h' w') hfn hbody (w := w) (by simpa using hA)
        exact this
      · cases hr
    · cases hr

end Go.Abs
end

section
/- A region whose order is open: whatever the order, it ends as the text's own. -/
open Go.RowKit
namespace Go.Abs
variable {B0 : Zn} {w0 : World} {φ : Map} {h h' : AW} {w : World} {P : Program}

theorem beqV_ok : ∀ (n : Nat) (a b : Value), beqV n a b = true → a = b := by
  have strs : ∀ a b : ByteArray, (a.data.toList == b.data.toList) = true → a = b := by
    intro a b h
    rw [beq_iff_eq] at h
    apply ByteArray.ext
    exact Array.ext' h
  have base : ∀ (n : Nat), (∀ a b, (∀ m, n = m + 1 → ∀ a b, beqV m a b = true → a = b) → beqV n a b = true → a = b) := by
    intro n a b ih h
    have lists : ∀ m, n = m + 1 → ∀ (xs ys : List Value), beqV.go m xs ys = true → xs = ys := by
      intro m hm xs
      induction xs with
      | nil => intro ys h; cases ys with
        | nil => rfl
        | cons y ys => simp [beqV.go] at h
      | cons x xs ihx => intro ys h; cases ys with
        | nil => simp [beqV.go] at h
        | cons y ys =>
          simp only [beqV.go, Bool.and_eq_true] at h
          rw [ih m hm x y h.1, ihx ys h.2]
    unfold beqV at h
    split at h
    · rw [beq_iff_eq] at h; rw [h]
    · simp only [Bool.and_eq_true, decide_eq_true_eq, beq_iff_eq] at h; rw [h.1, h.2]
    · rw [strs _ _ h]
    · simp only [decide_eq_true_eq] at h; rw [h]
    · simp only [Bool.and_eq_true, decide_eq_true_eq] at h; rw [h.1.1, beq_true h.1.2, beq_true h.2]
    · simp only [decide_eq_true_eq] at h; rw [h]
    · rfl
    · rfl
    · simp only [Bool.and_eq_true] at h; rw [beq_true h.1, ih _ rfl _ _ h.2]
    · rename_i m a b
      have := lists m rfl _ _ h
      rw [show a = b from Array.ext' this]
    · rename_i m a b
      have := lists m rfl _ _ h
      rw [show a = b from Array.ext' this]
    · rename_i m f a b f' a' b'
      simp only [Bool.and_eq_true, decide_eq_true_eq] at h
      rw [h.1.1, show a = a' from Array.ext' (lists m rfl _ _ h.1.2), show b = b' from Array.ext' (lists m rfl _ _ h.2)]
    · cases h
  intro n
  induction n with
  | zero => intro a b h; exact base 0 a b (fun m hm => by omega) h
  | succ n ih => intro a b h; exact base (n + 1) a b (fun m hm => by cases hm; exact ih) h

theorem mem_tmpsOf : ∀ {l : List Operand} {t : Nat}, .tmp t ∈ l → t ∈ tmpsOf l
  | x :: l, t, h => by
    rcases List.mem_cons.1 h with rfl | hm
    · simp [tmpsOf]
    · have := mem_tmpsOf hm
      cases x <;> simp [tmpsOf, this]

theorem rev_of {F : Fr} {a : Act} {l : List Operand} (hl : operandsOk P.globals.size l = true) (hG : Glob P φ) (ht : ∀ t, t ∈ tmpsOf l → VRel φ (F.ev (.tmp t)) (a.eval (.tmp t))) : Rev φ F a.eval l := by
  intro x hx
  have hok := operandsOk_spec hl x hx
  cases x with
  | tmp t => exact ht t (mem_tmpsOf hx)
  | const v => exact flat_rel hok
  | global g => exact VRel.ptr (off := 0) (hG g (ble_true hok)) (Nat.zero_le _)
  | func f => exact VRel.func' _ L2.nil L2.nil

theorem guard_ok' {F : Fr} {a : Act} {ops : Array Oper} {o : Oper} {b : Bool} (hd : ∀ j want oj d, o.guard = some (j, want) → ops.toList[j]? = some oj → oj.dst = some d → VRel φ (F.ev (.tmp d)) (a.eval (.tmp d)))
    (hg : guardOk ops.toList F o = some b) : Region.wanted o (yielded ops a.tmps) = b := by
  unfold guardOk at hg
  unfold Region.wanted
  split at hg
  · rename_i he
    simp only [Option.some.injEq] at hg; subst hg
    rw [he]
  · rename_i j want he
    rw [he]
    simp only
    unfold yielded
    split at hg
    · rename_i oj hoj
      have hoj' : ops[j]? = some oj := by simpa using hoj
      rw [hoj']
      simp only [Option.bind_some]
      split at hg
      · rename_i d hdd
        rw [hdd]
        simp only [Option.bind_some]
        have hr := hd j want oj d he hoj hdd
        simp only [Fr.ev, Act.eval] at hr
        have conc : ∀ v, a.tmps.getD d undef = v → ∀ c, v = .bool c → a.tmps[d]? = some (.bool c) := by
          intro v hv c hc
          rw [Array.getD_eq_getD_getElem?] at hv
          cases hx : a.tmps[d]? with
          | none => rw [hx] at hv; simp only [Option.getD_none] at hv; rw [hc] at hv; cases hv
          | some u => rw [hx] at hv; simp only [Option.getD_some] at hv; rw [hv, hc]
        split at hg
        · rename_i c hc
          rw [hc] at hr
          simp only [Option.some.injEq] at hg; subst hg
          have := conc _ hr.bool_inv c rfl
          rw [this]
          cases c <;> cases want <;> rfl
        · rename_i hnb
          simp only [Option.some.injEq] at hg; subst hg
          have hne : ∀ c, a.tmps[d]? ≠ some (.bool c) := by
            intro c hc
            have hgd : a.tmps.getD d undef = .bool c := by rw [Array.getD_eq_getD_getElem?, hc]; rfl
            rw [hgd] at hr
            cases hx : F.t.get? d with
            | none => rw [hx] at hr; cases hr
            | some u => rw [hx] at hr; simp only at hr; cases hr; exact hnb c hx
          cases hx : a.tmps[d]? with
          | none => cases want <;> rfl
          | some u =>
            rw [hx] at hne
            cases u <;> first | (exact absurd rfl (hne _)) | (cases want <;> rfl)
      · rename_i hdd
        rw [hdd]
        simp only [Option.some.injEq] at hg; subst hg
        cases want <;> rfl
    · rename_i hoj
      have hoj' : ops[j]? = none := by simpa using hoj
      rw [hoj']
      simp only [Option.some.injEq] at hg; subst hg
      cases want <;> rfl

/-- An operation that turns the heap, or a call. -/
theorem act_ok {call : FuncId → List Value → AW → Option (Value × AW)} (hcall : CallOk P B0 w0 call) {o : Oper} {F : Fr} {a : Act} {v : Value}
    (hrev : Rev φ F a.eval o.op.operands.toList) (H : HRel B0 w0 φ h w) (hG : Glob P φ) (hv : actV P call F h o = some (v, h')) (K : Act → World → Prop) (Q : Exit → Act → World → Prop)
    (hK : ∀ ψ v' w', φ.le ψ → VRel ψ v v' → HRel B0 w0 ψ h' w' → K (a.put o.dst v') w') : o.wp P a w K Q := by
  unfold actV at hv
  split at hv
  · rename_i f args ats hop
    rw [hop] at hrev
    split at hv
    · rename_i fid cargs ht
      unfold target at ht
      simp only at ht
      split at ht
      · rename_i f' first captured hfe
        simp only [Option.some.injEq, Prod.mk.injEq] at ht
        obtain ⟨rfl, rfl⟩ := ht
        obtain ⟨⟨fn, c, hfn, hbody, hname⟩, hcalls⟩ := hcall _ _ _ _ _ hv
        have hf := hrev f (by simp [Op.operands, Call.operands])
        rw [hfe] at hf
        obtain ⟨first', captured', hfc, hl1, hl2⟩ := hf.func_inv
        have hargs : LRel φ (vals F args) (args.map a.eval).toList := by
          rw [Array.toList_map]
          exact L2.self_map fun x hx => hrev x (by simp [Op.operands, Call.operands]; exact .inr (by simpa using hx))
        have hall : LRel φ (first.toList ++ (vals F args ++ captured.toList)) (first'.toList ++ ((args.map a.eval).toList ++ captured'.toList)) := hl1.append (hargs.append hl2)
        have hC := hcalls φ w _ hall H hG
        have hrun : (execOp a.eval o).run P w = .ok (.enter f' ⟨first'.toList ++ ((args.map a.eval).toList ++ captured'.toList)⟩) w := by
          have harr : (first' ++ args.map a.eval ++ captured' : Array Value) = ⟨first'.toList ++ ((args.map a.eval).toList ++ captured'.toList)⟩ := by
            apply Array.ext'; simp
          simp only [execOp, hop, resolve, hfc, Deferred.ofValue, Sem.run_bind, Sem.run_pure, Result.andThen_ok, invoke, callFunc, run_program, hfn, hname, Bool.false_eq_true, if_false, hbody, Option.isNone_some, harr]
        unfold Oper.wp
        rw [hrun, Oper.upon_enter]
        refine hC.mono fun e w' he => ?_
        obtain ⟨ψ, v', hle, rfl, hvr, H'⟩ := he
        exact hK ψ v' w' hle hvr H'
      · cases ht
    · cases hv
  · obtain ⟨ψ, v', w', hgives, hle, hvr, H'⟩ := opA_ok H hrev hv
    have hfin := hK ψ v' w' hle hvr H'
    unfold Oper.wp
    rcases hgives with hg1 | ⟨rfl, hg1⟩
    · rw [hg1, Oper.upon_value]; exact hfin
    · rw [hg1, Oper.upon_skip]; exact hfin

/-- What a trace says of each of its operations. -/
structure StSpec (P : Program) (call : FuncId → List Value → AW → Option (Value × AW)) (ops : List Oper) (s : St) : Prop where
  guard : guardOk ops s.F s.o = some s.want
  off : s.want = false → s.act = none ∧ s.v = undef
  quiet : s.want = true → s.act = none → opQ P s.F s.h s.o.op = some s.v
  turn : ∀ h', s.act = some h' → s.want = true ∧ actV P call s.F s.h s.o = some (s.v, h')
  room : ∀ d, s.o.dst = some d → d < s.F.n

theorem put_n {F F' : Fr} {d : Option Tmp} {v : Value} (hp : F.put d v = some F') : F'.n = F.n ∧ (∀ x, d = some x → x < F.n) ∧ ∀ t : Nat, F'.ev (.tmp t) = if d = some t then v else F.ev (.tmp t) := by
  unfold Fr.put at hp
  cases d with
  | none => simp only [Option.some.injEq] at hp; subst hp; exact ⟨rfl, fun x e => (by cases e), fun t => by simp⟩
  | some d =>
    simp only at hp
    split at hp
    · rename_i hb
      simp only [Option.some.injEq] at hp; subst hp
      refine ⟨rfl, fun x e => by cases e; exact ble_true hb, fun t => ?_⟩
      by_cases ht : d = t
      · subst ht; simp [Fr.ev, T.get?_set_same]
      · have : ¬ (some d = some t) := fun e => ht (Option.some.inj e)
        rw [if_neg this]
        simp only [Fr.ev]
        rw [T.get?_set_ne _ _ (Ne.symm ht)]
    · cases hp

def hAt : AW → List (Nat × AW) → Nat → AW
  | h, [], _ => h
  | h, _ :: _, 0 => h
  | _, p :: l, k + 1 => hAt p.2 l k

theorem hAt_zero (h : AW) (As : List (Nat × AW)) : hAt h As 0 = h := by cases As <;> rfl

theorem acts_length (k m : Nat) : ∀ (l : List St), (acts k l).length = (acts m l).length
  | [] => rfl
  | s :: l => by
    simp only [acts]
    cases s.act with
    | none => exact acts_length (k + 1) (m + 1) l
    | some h => simp [acts_length (k + 1) (m + 1) l]

/-- The trace, place by place. -/
theorem trace_spec {call : FuncId → List Value → AW → Option (Value × AW)} {ops : List Oper} : ∀ (l : List Oper) (F : Fr) (h : AW) (tr : List St) (F' : Fr) (h' : AW), traceOps P call ops l F h = some (tr, F', h') →
    tr.length = l.length ∧ (∀ (j : Nat) (s : St), tr[j]? = some s → l[j]? = some s.o ∧ StSpec P call ops s ∧ s.F.n = F.n) ∧ F'.n = F.n ∧
    -- the frames
    (∀ (j : Nat) (s : St), tr[j]? = some s → ∀ t : Nat, (∃ (i : Nat) (s' : St), i < j ∧ tr[i]? = some s' ∧ s'.o.dst = some t ∧ s.F.ev (.tmp t) = s'.v ∧ ∀ (i' : Nat) (s'' : St), i < i' → i' < j → tr[i']? = some s'' → s''.o.dst ≠ some t) ∨ ((∀ (i : Nat) (s' : St), i < j → tr[i]? = some s' → s'.o.dst ≠ some t) ∧ s.F.ev (.tmp t) = F.ev (.tmp t))) ∧
    (∀ t : Nat, (∃ (i : Nat) (s' : St), tr[i]? = some s' ∧ s'.o.dst = some t ∧ F'.ev (.tmp t) = s'.v ∧ ∀ (i' : Nat) (s'' : St), i < i' → tr[i']? = some s'' → s''.o.dst ≠ some t) ∨ ((∀ (i : Nat) (s' : St), tr[i]? = some s' → s'.o.dst ≠ some t) ∧ F'.ev (.tmp t) = F.ev (.tmp t))) ∧
    -- the heaps
    (∀ (j : Nat) (s : St), tr[j]? = some s → ∀ k, s.h = hAt h (acts k tr) (acts k (tr.take j)).length ∧ (∀ h2, s.act = some h2 → (acts k tr)[(acts k (tr.take j)).length]? = some (k + j, h2))) ∧
    (∀ k, h' = hAt h (acts k tr) (acts k tr).length)
  | [], F, h, tr, F', h', hr => by
    simp only [traceOps, Option.some.injEq, Prod.mk.injEq] at hr
    obtain ⟨rfl, rfl, rfl⟩ := hr
    exact ⟨rfl, fun j s hj => by simp at hj, rfl, fun j s hj => by simp at hj, fun t => .inr ⟨fun i s' hi => by simp at hi, rfl⟩, fun j s hj => by simp at hj, fun k => rfl⟩
  | o :: l, F, h, tr, F', h', hr => by
    -- one step ahead of the rest
    have cons : ∀ (want : Bool) (act : Option AW) (v : Value) (F1 : Fr) (h1 : AW) (tr1 : List St), F.put o.dst v = some F1 → StSpec P call ops ⟨o, F, h, want, act, v⟩ → (match act with | some x => h1 = x | none => h1 = h) →
        traceOps P call ops l F1 h1 = some (tr1, F', h') → tr = ⟨o, F, h, want, act, v⟩ :: tr1 →
        tr.length = (o :: l).length ∧ (∀ (j : Nat) (s : St), tr[j]? = some s → (o :: l)[j]? = some s.o ∧ StSpec P call ops s ∧ s.F.n = F.n) ∧ F'.n = F.n ∧
        (∀ (j : Nat) (s : St), tr[j]? = some s → ∀ t : Nat, (∃ (i : Nat) (s' : St), i < j ∧ tr[i]? = some s' ∧ s'.o.dst = some t ∧ s.F.ev (.tmp t) = s'.v ∧ ∀ (i' : Nat) (s'' : St), i < i' → i' < j → tr[i']? = some s'' → s''.o.dst ≠ some t) ∨ ((∀ (i : Nat) (s' : St), i < j → tr[i]? = some s' → s'.o.dst ≠ some t) ∧ s.F.ev (.tmp t) = F.ev (.tmp t))) ∧
        (∀ t : Nat, (∃ (i : Nat) (s' : St), tr[i]? = some s' ∧ s'.o.dst = some t ∧ F'.ev (.tmp t) = s'.v ∧ ∀ (i' : Nat) (s'' : St), i < i' → tr[i']? = some s'' → s''.o.dst ≠ some t) ∨ ((∀ (i : Nat) (s' : St), tr[i]? = some s' → s'.o.dst ≠ some t) ∧ F'.ev (.tmp t) = F.ev (.tmp t))) ∧
        (∀ (j : Nat) (s : St), tr[j]? = some s → ∀ k, s.h = hAt h (acts k tr) (acts k (tr.take j)).length ∧ (∀ h2, s.act = some h2 → (acts k tr)[(acts k (tr.take j)).length]? = some (k + j, h2))) ∧
        (∀ k, h' = hAt h (acts k tr) (acts k tr).length) := by
      intro want act v F1 h1 tr1 hput hspec hact htr htreq
      subst htreq
      obtain ⟨pn, proom, pev⟩ := put_n hput
      obtain ⟨q1, q2, q3, q4, q5, q6, q7⟩ := trace_spec l F1 h1 tr1 F' h' htr
      refine ⟨by simp [q1], ?_, q3.trans pn, ?_, ?_, ?_, ?_⟩
      · intro j s hj
        cases j with
        | zero => simp at hj; subst hj; exact ⟨rfl, hspec, rfl⟩
        | succ j =>
          simp at hj
          obtain ⟨a1, a2, a3⟩ := q2 j s hj
          exact ⟨by simpa using a1, a2, a3.trans pn⟩
      · intro j s hj t
        cases j with
        | zero => simp at hj; subst hj; exact .inr ⟨fun i s' hi => by omega, rfl⟩
        | succ j =>
          simp at hj
          rcases q4 j s hj t with ⟨i, s', a1, a2, a3, a4, a5⟩ | ⟨b1, b2⟩
          · refine .inl ⟨i + 1, s', by omega, by simpa using a2, a3, a4, fun i' s'' c1 c2 c3 => ?_⟩
            cases i' with
            | zero => omega
            | succ i' => exact a5 i' s'' (by omega) (by omega) (by simpa using c3)
          · rw [pev] at b2
            by_cases hd : o.dst = some t
            · rw [if_pos hd] at b2
              refine .inl ⟨0, _, by omega, rfl, hd, b2, fun i' s'' c1 c2 c3 => ?_⟩
              cases i' with
              | zero => omega
              | succ i' => exact b1 i' s'' (by omega) (by simpa using c3)
            · rw [if_neg hd] at b2
              refine .inr ⟨fun i s' c1 c2 => ?_, b2⟩
              cases i with
              | zero => simp at c2; subst c2; exact hd
              | succ i => exact b1 i s' (by omega) (by simpa using c2)
      · intro t
        rcases q5 t with ⟨i, s', a2, a3, a4, a5⟩ | ⟨b1, b2⟩
        · refine .inl ⟨i + 1, s', by simpa using a2, a3, a4, fun i' s'' c1 c3 => ?_⟩
          cases i' with
          | zero => omega
          | succ i' => exact a5 i' s'' (by omega) (by simpa using c3)
        · rw [pev] at b2
          by_cases hd : o.dst = some t
          · rw [if_pos hd] at b2
            refine .inl ⟨0, _, rfl, hd, b2, fun i' s'' c1 c3 => ?_⟩
            cases i' with
            | zero => omega
            | succ i' => exact b1 i' s'' (by simpa using c3)
          · rw [if_neg hd] at b2
            refine .inr ⟨fun i s' c2 => ?_, b2⟩
            cases i with
            | zero => simp at c2; subst c2; exact hd
            | succ i => exact b1 i s' (by simpa using c2)
      · intro j s hj k
        cases j with
        | zero =>
          simp at hj; subst hj
          refine ⟨(hAt_zero _ _).symm, fun h2 e => ?_⟩
          simp only at e
          subst e
          simp [acts]
        | succ j =>
          simp at hj
          obtain ⟨a1, a2⟩ := q6 j s hj (k + 1)
          cases act with
          | none =>
            simp only at hact; subst hact
            simp only [acts, List.take_succ_cons]
            exact ⟨a1, fun h2 e => by rw [a2 h2 e]; congr 2; omega⟩
          | some x =>
            simp only at hact; subst hact
            simp only [acts, List.take_succ_cons, List.length_cons]
            refine ⟨?_, fun h2 e => by rw [List.getElem?_cons_succ, a2 h2 e]; congr 2; omega⟩
            rw [a1]; rfl
      · intro k
        have := q7 (k + 1)
        cases act with
        | none =>
          simp only at hact; subst hact
          simpa only [acts] using this
        | some x =>
          simp only at hact; subst hact
          simp only [acts, List.length_cons]
          rw [this]; rfl
    simp only [traceOps] at hr
    split at hr
    · cases hr
    · rename_i hg
      split at hr
      · rename_i F1 hput
        split at hr
        · rename_i tr1 r htr
          simp only [Option.some.injEq, Prod.mk.injEq] at hr
          obtain ⟨rfl, rfl⟩ := hr
          exact cons false none undef F1 h tr1 hput ⟨hg, fun _ => ⟨rfl, rfl⟩, fun e => (by cases e), fun h' e => (by cases e), (put_n hput).2.1⟩ rfl htr rfl
        · cases hr
      · cases hr
    · rename_i hg
      split at hr
      · rename_i v hq
        split at hr
        · rename_i F1 hput
          split at hr
          · rename_i tr1 r htr
            simp only [Option.some.injEq, Prod.mk.injEq] at hr
            obtain ⟨rfl, rfl⟩ := hr
            exact cons true none v F1 h tr1 hput ⟨hg, fun e => (by cases e), fun _ _ => hq, fun h' e => (by cases e), (put_n hput).2.1⟩ rfl htr rfl
          · cases hr
        · cases hr
      · split at hr
        · rename_i v h1 hq
          split at hr
          · rename_i F1 hput
            split at hr
            · rename_i tr1 r htr
              simp only [Option.some.injEq, Prod.mk.injEq] at hr
              obtain ⟨rfl, rfl⟩ := hr
              exact cons true (some h1) v F1 h1 tr1 hput ⟨hg, fun e => (by cases e), fun _ e => (by cases e), fun h' e => (by cases e; exact ⟨rfl, hq⟩), (put_n hput).2.1⟩ rfl htr rfl
            · cases hr
          · cases hr
        · cases hr

end Go.Abs
end

section
/- A region whose order is open: every order comes to what the text's own comes to. -/
open Go.RowKit
namespace Go.Abs
variable {B0 : Zn} {w0 : World} {φ : Map} {h h' : AW} {w : World} {P : Program}

theorem maskOf_spec {acc : List Nat} {i : Nat} : ∀ {l : List Edge}, (maskOf acc l).testBit i = true → ∃ e, e ∈ l ∧ Region.binds .any e = true ∧ (i = e.on ∨ (acc.getD e.on 0).testBit i = true)
  | [], h => by simp [maskOf] at h
  | e :: l, h => by
    simp only [maskOf] at h
    split at h
    · rename_i hb
      rw [Nat.testBit_or, Nat.testBit_or, Nat.testBit_two_pow] at h
      simp only [Bool.or_eq_true, decide_eq_true_eq] at h
      rcases h with (h | h) | h
      · exact ⟨e, by simp, hb, .inl h.symm⟩
      · exact ⟨e, by simp, hb, .inr h⟩
      · obtain ⟨e', a, b, c⟩ := maskOf_spec h
        exact ⟨e', by simp [a], b, c⟩
    · obtain ⟨e', a, b, c⟩ := maskOf_spec h
      exact ⟨e', by simp [a], b, c⟩

theorem masks_pre : ∀ (l : List Oper) (acc : List Nat), ∃ r, masks l acc = acc ++ r
  | [], acc => ⟨[], by simp [masks]⟩
  | o :: l, acc => by
    obtain ⟨r, hr⟩ := masks_pre l (acc ++ [maskOf acc o.after.toList])
    exact ⟨maskOf acc o.after.toList :: r, by simp [masks, hr]⟩

theorem masks_at : ∀ (l : List Oper) (acc : List Nat) (k : Nat) (o : Oper), l[k]? = some o → ∃ pre r : List Nat, masks l acc = pre ++ maskOf pre o.after.toList :: r ∧ pre.length = acc.length + k := by
  intro l
  induction l with
  | nil => intro acc k o h; simp at h
  | cons o' l ih =>
    intro acc k o h
    cases k with
    | zero =>
      simp only [List.getElem?_cons_zero, Option.some.injEq] at h
      subst h
      obtain ⟨r, hr⟩ := masks_pre l (acc ++ [maskOf acc o'.after.toList])
      refine ⟨acc, r, ?_, by omega⟩
      rw [masks, hr, List.append_assoc]; rfl
    | succ k =>
      rw [List.getElem?_cons_succ] at h
      obtain ⟨pre, r, a, b⟩ := ih (acc ++ [maskOf acc o'.after.toList]) k o h
      refine ⟨pre, r, ?_, ?_⟩
      · rw [masks]; exact a
      · rw [List.length_append, List.length_singleton] at b; omega

theorem edgesOk_spec {j : Nat} : ∀ {l : List Edge}, edgesOk j l = true → ∀ e, e ∈ l → Region.binds .any e = true → e.on < j
  | e :: l, h, x, hx, hb => by
    simp only [edgesOk, Bool.and_eq_true, Bool.or_eq_true, Bool.not_eq_true'] at h
    rcases List.mem_cons.1 hx with rfl | hm
    · rcases h.1 with h1 | h1
      · rw [hb] at h1; cases h1
      · have := ble_true h1; omega
    · exact edgesOk_spec h.2 x hm hb

theorem rowOk_spec {M : List Nat} {ops : List Oper} {j : Nat} {oj : Oper} : ∀ {l : List Oper} {k : Nat}, rowOk M ops j oj k l = true → ∀ i oi, l[i]? = some oi → pairOk M ops (k + i) oi j oj = true
  | [], k, h, i, oi, hi => by simp at hi
  | o :: l, k, h, i, oi, hi => by
    simp only [rowOk, Bool.and_eq_true] at h
    cases i with
    | zero => simp at hi; subst hi; exact h.1
    | succ i =>
      simp at hi
      have := rowOk_spec h.2 i oi hi
      rwa [show k + 1 + i = k + (i + 1) from by omega] at this

theorem allRows_spec {M : List Nat} {ops : List Oper} : ∀ {l : List Oper} {k : Nat}, allRows M ops k l = true → ∀ j oj, l[j]? = some oj → rowOk M ops (k + j) oj 0 ops = true ∧ edgesOk (k + j) oj.after.toList = true
  | [], k, h, j, oj, hj => by simp at hj
  | o :: l, k, h, j, oj, hj => by
    simp only [allRows, Bool.and_eq_true] at h
    cases j with
    | zero => simp at hj; subst hj; exact h.1
    | succ j =>
      simp at hj
      have := allRows_spec h.2 j oj hj
      rwa [show k + 1 + j = k + (j + 1) from by omega] at this

/-- What the fixed look at a region says. -/
structure Static (ops : List Oper) : Prop where
  edge : ∀ j oj, ops[j]? = some oj → ∀ e, e ∈ oj.after.toList → Region.binds .any e = true → e.on < j
  mask : ∀ j oj i, ops[j]? = some oj → bef (masks ops []) i j = true → ∃ e, e ∈ oj.after.toList ∧ Region.binds .any e = true ∧ (i = e.on ∨ bef (masks ops []) i e.on = true)
  pair : ∀ i j oi oj, ops[i]? = some oi → ops[j]? = some oj → i ≠ j → ∀ d, oi.dst = some d → oj.dst ≠ some d ∧ (d ∈ readsOf ops oj → (i < j → bef (masks ops []) i j = true) ∧ (j < i → bef (masks ops []) j i = true))

theorem static_of {ops : List Oper} (hs : staticOk ops = true) : Static ops := by
  have hall := fun j oj hj => allRows_spec (k := 0) hs j oj hj
  simp only [Nat.zero_add] at hall
  refine ⟨fun j oj hj e he hb => edgesOk_spec (hall j oj hj).2 e he hb, ?_, ?_⟩
  · intro j oj i hj hb
    obtain ⟨pre, r, a, b⟩ := masks_at ops [] j oj hj
    simp only [List.length_nil, Nat.zero_add] at b
    unfold bef at hb
    rw [show (masks ops []).getD j 0 = maskOf pre oj.after.toList from by rw [a, List.getD_eq_getElem?_getD, List.getElem?_append_right (by omega), b]; simp] at hb
    obtain ⟨e, he, hbi, hc⟩ := maskOf_spec hb
    have hlt := edgesOk_spec (hall j oj hj).2 e he hbi
    refine ⟨e, he, hbi, hc.imp id fun hc => ?_⟩
    unfold bef
    rw [show (masks ops []).getD e.on 0 = pre.getD e.on 0 from by rw [a, List.getD_eq_getElem?_getD, List.getD_eq_getElem?_getD, List.getElem?_append_left (by omega)]]
    exact hc
  · intro i j oi oj hi hj hij d hd
    have hp := rowOk_spec (hall j oj hj).1 i oi hi
    simp only [Nat.zero_add] at hp
    unfold pairOk at hp
    rw [show Nat.beq i j = false from by cases hb : Nat.beq i j with
      | false => rfl
      | true => exact absurd (beq_true hb) hij, hd] at hp
    simp only [Bool.and_eq_true, Bool.not_eq_true', decide_eq_false_iff_not, Bool.or_eq_true] at hp
    refine ⟨hp.1, fun hm => ?_⟩
    rcases hp.2 with h2 | h2
    · have : (readsOf ops oj).contains d = true := by simpa using hm
      rw [h2] at this; cases this
    · constructor
      · intro hlt
        rw [show Nat.ble (i + 1) j = true from Nat.ble_eq_true_of_le hlt] at h2
        exact h2
      · intro hlt
        rw [show Nat.ble (i + 1) j = false from by cases hb : Nat.ble (i + 1) j with
          | false => rfl
          | true => have := ble_true hb; omega] at h2
        exact h2

theorem acts_at : ∀ (l : List St) (k m i : Nat) (h : AW), (acts k l)[m]? = some (i, h) → k ≤ i ∧ (∃ s, l[i - k]? = some s ∧ s.act = some h) ∧ m = (acts k (l.take (i - k))).length
  | [], k, m, i, h, hm => by simp [acts] at hm
  | s :: l, k, m, i, h, hm => by
    simp only [acts] at hm
    cases ha : s.act with
    | none =>
      rw [ha] at hm
      obtain ⟨a, ⟨s', b, c⟩, d⟩ := acts_at l (k + 1) m i h hm
      have e : i - k = (i - (k + 1)) + 1 := by omega
      refine ⟨by omega, ⟨s', by rw [e]; simpa using b, c⟩, ?_⟩
      rw [e, List.take_succ_cons]
      simp only [acts, ha]
      exact d
    | some x =>
      rw [ha] at hm
      cases m with
      | zero =>
        simp at hm
        obtain ⟨rfl, rfl⟩ := hm
        exact ⟨Nat.le_refl _, ⟨s, by simp, ha⟩, by simp [acts]⟩
      | succ m =>
        simp at hm
        obtain ⟨a, ⟨s', b, c⟩, d⟩ := acts_at l (k + 1) m i h hm
        have e : i - k = (i - (k + 1)) + 1 := by omega
        refine ⟨by omega, ⟨s', by rw [e]; simpa using b, c⟩, ?_⟩
        rw [e, List.take_succ_cons]
        simp only [acts, ha, List.length_cons]
        omega

theorem hAt_succ : ∀ (h : AW) (As : List (Nat × AW)) (k : Nat) (p : Nat × AW), As[k]? = some p → hAt h As (k + 1) = p.2
  | h, [], k, p, hk => by simp at hk
  | h, q :: l, 0, p, hk => by simp at hk; subst hk; simp [hAt, hAt_zero]
  | h, q :: l, k + 1, p, hk => by simp at hk; simp only [hAt]; exact hAt_succ q.2 l k p hk

theorem noneBef_spec {M : List Nat} {j : Nat} : ∀ {As : List (Nat × AW)}, (∀ (m : Nat) (p : Nat × AW), As[m]? = some p → bef M p.1 j = false) → noneBef M j As = true
  | [], _ => rfl
  | p :: l, h => by
    simp only [noneBef, Bool.and_eq_true, Bool.not_eq_true']
    exact ⟨h 0 p rfl, noneBef_spec fun m q hq => h (m + 1) q (by simpa using hq)⟩

theorem chk_spec {M : List Nat} {j own : Nat} {check : AW → Bool} : ∀ (As : List (Nat × AW)) (cur : Nat) (h : AW) (k : Nat), chkFrom M j check own cur h As = true → k ≤ As.length → (∀ (m : Nat) (p : Nat × AW), m < k → As[m]? = some p → bef M j p.1 = false) →
    (∀ (m : Nat) (p : Nat × AW), k ≤ m → As[m]? = some p → bef M p.1 j = false) → cur + k = own ∨ check (hAt h As k) = true
  | [], cur, h, k, hc, hk, _, _ => by
    have : k = 0 := by simpa using hk
    subst this
    simp only [chkFrom, Bool.or_eq_true] at hc
    exact hc.imp (fun e => beq_true e) id
  | p :: l, cur, h, 0, hc, hk, _, h2 => by
    simp only [chkFrom, Bool.and_eq_true, Bool.or_eq_true, Bool.not_eq_true'] at hc
    rcases hc.1 with (h1 | h1) | h1
    · exact .inl (beq_true h1)
    · rw [noneBef_spec fun m q hq => h2 m q (by omega) hq] at h1; cases h1
    · exact .inr h1
  | p :: l, cur, h, k + 1, hc, hk, h1, h2 => by
    simp only [chkFrom, Bool.and_eq_true, Bool.or_eq_true] at hc
    rcases hc.2 with hb | hb
    · rw [h1 0 p (by omega) rfl] at hb; cases hb
    · rcases chk_spec l (cur + 1) p.2 k hb (by simpa using hk) (fun m q hm hq => h1 (m + 1) q (by omega) (by simpa using hq)) (fun m q hm hq => h2 (m + 1) q (by omega) (by simpa using hq)) with e | e
      · exact .inl (by omega)
      · exact .inr e

theorem chain_spec {M : List Nat} : ∀ {As : List (Nat × AW)}, chainOk M As = true → ∀ (m : Nat) (p q : Nat × AW), As[m]? = some p → As[m + 1]? = some q → bef M p.1 q.1 = true
  | [], h, m, p, q, hp, hq => by simp at hp
  | a :: l, h, m, p, q, hp, hq => by
    simp only [chainOk, Bool.and_eq_true] at h
    cases m with
    | zero =>
      simp at hp; subst hp
      cases l with
      | nil => simp at hq
      | cons b l => simp at hq; subst hq; exact h.1
    | succ m =>
      simp at hp
      have hq' : l[m + 1]? = some q := by simpa using hq
      exact chain_spec h.2 m p q hp hq'

theorem sts_spec {M : List Nat} {h : AW} {As : List (Nat × AW)} : ∀ {l : List St} {own k : Nat}, stsOk P M h As own k l = true → ∀ (j : Nat) (s : St), l[j]? = some s → stOk P M h As (own + (acts 0 (l.take j)).length) (k + j) s = true
  | [], own, k, hs, j, s, hj => by simp at hj
  | s' :: l, own, k, hs, j, s, hj => by
    simp only [stsOk, Bool.and_eq_true] at hs
    cases j with
    | zero => simp at hj; subst hj; exact hs.1
    | succ j =>
      simp at hj
      have := sts_spec hs.2 j s hj
      rw [show k + 1 + j = k + (j + 1) from by omega] at this
      rw [List.take_succ_cons]
      simp only [acts]
      cases ha : s'.act with
      | none => rw [ha] at this; simp only at this ⊢; rw [acts_length 1 0]; exact this
      | some x => rw [ha] at this; simp only [List.length_cons] at this ⊢; rw [acts_length 1 0, show own + ((acts 0 (l.take j)).length + 1) = own + 1 + (acts 0 (l.take j)).length from by omega]; exact this

theorem opQ_still {F : Fr} {h h' : AW} {o : Op} (hl : looks o = false) : opQ P F h o = opQ P F h' o := by
  cases o <;> first | (simp [looks] at hl; done) | rfl

def unl (listed : Array Bool) : Nat := listed.toList.countP (!·)

theorem unl_set {listed : Array Bool} {j : Nat} (hj : listed[j]? = some false) : unl listed = unl (listed.setIfInBounds j true) + 1 := by
  unfold unl
  rw [Array.toList_setIfInBounds]
  have hj' : listed.toList[j]? = some false := by simpa using hj
  clear hj
  generalize listed.toList = l at hj'
  induction l generalizing j with
  | nil => simp at hj'
  | cons b l ih =>
    cases j with
    | zero => simp at hj'; subst hj'; simp
    | succ j =>
      simp at hj'
      simp only [List.set_cons_succ, List.countP_cons]
      have := ih hj'
      omega

end Go.Abs
end

section
/- A region whose order is open, but where whatever turns the heap is ordered with whatever looks at it: it runs as the text stands. -/
namespace Go.Abs
variable {P : Program}

end Go.Abs
end

section
/- Walks, first part: what must hold for an operation to come to what is wanted. -/
namespace Go.Abs

/-! Words that a walk is told in. -/
def oB {α : Type} (x : Option α) (f : α → Prop) : Prop := match x with | some a => f a | none => False
def oP (x : Option (Value × AW)) (f : Value → AW → Prop) : Prop := match x with | some (v, h) => f v h | none => False
def bC (b : Bool) (p q : Prop) : Prop := match b with | true => p | false => q
def vInt (k : IntKind) (v : Value) (f : Int → Prop) : Prop := match v with | .int k' n => bC (decide (k' = k)) (f n) False | _ => False
def vBool (v : Value) (f : Bool → Prop) : Prop := match v with | .bool b => f b | _ => False
def vStr (v : Value) (f : ByteArray → Prop) : Prop := match v with | .string s => f s | _ => False
def vPtr (v : Value) (f : Option Addr → Prop) : Prop := match v with | .pointer p => f p | _ => False
def vSl (v : Value) (f : Option Addr → Nat → Nat → Prop) : Prop := match v with | .slice a l c => f a l c | _ => False
def vMap (v : Value) (f : Option Nat → Prop) : Prop := match v with | .map r => f r | _ => False
def vFun (v : Value) (f : FuncId → List Value → List Value → Prop) : Prop := match v with | .func (.func i) a b => f i a.toList b.toList | _ => False
def vIfc (v : Value) (p : Prop) (f : TypeId → Value → Prop) : Prop := match v with | .nilIface => p | .iface t x => f t x | _ => False
def vAgg (v : Value) (f : List Value → Prop) : Prop := match v with | .agg cs => f cs.toList | _ => False
def vTup (v : Value) (f : List Value → Prop) : Prop := match v with | .tuple cs => f cs.toList | _ => False
def lC (l : List Value) (f : Value → List Value → Prop) : Prop := match l with | v :: l => f v l | [] => False
def lN (l : List Value) (p : Prop) : Prop := match l with | [] => p | _ => False
def aP (p : Option Addr) (f : Nat → Nat → Prop) : Prop := match p with | some ⟨i, off, none⟩ => f i off | _ => False
def nilI : Value → Option Bool
  | .nilIface => some true
  | .iface _ _ => some false
  | _ => none
def nilF : Value → Option Bool
  | .nilFunc => some true
  | .func _ _ _ => some false
  | _ => none
def natIdx (z : Int) (n : Nat) : Option Nat :=
  match z with
  | .ofNat i => match Nat.ble (i + 1) n with | true => some i | false => none
  | _ => none
def natBnd (z : Int) (n : Nat) : Option Nat :=
  match z with
  | .ofNat i => match Nat.ble i n with | true => some i | false => none
  | _ => none
def shO (a : Option Addr) (n : Nat) : Option (Option Addr) :=
  match a with
  | none => some none
  | some ⟨b, off, none⟩ => some (some ⟨b, off + n, none⟩)
  | _ => none
def bAt (s : ByteArray) (i : Nat) : Option Int := match s.data[i]? with | some b => some (b.toNat : Int) | none => none
def bSub (s : ByteArray) (lo hi : Nat) : ByteArray := ⟨⟨(s.data.toList.drop lo).take (hi - lo)⟩⟩
def bEq (x y : ByteArray) : Bool := x.data.toList == y.data.toList
def AW.addVar (h : AW) (cells : List Value) : AW := { h with next := h.next + 1, objs := h.objs.set h.next (.var (T.ofList cells) cells.length false) }
def AW.addMap (h : AW) : AW := { h with next := h.next + 1, objs := h.objs.set h.next (.map []) }
def AW.mapL (h : AW) (r : Option Nat) : Option (List (Value × Value)) :=
  match r with
  | none => some []
  | some r => match h.objs.get? r with
    | some (.map es) => some es
    | _ => none
def AW.bytes (h : AW) (a : Option Addr) (len : Nat) : Option ByteArray :=
  match a with
  | none => some .empty
  | some ⟨i, off, none⟩ => match h.rdN i off len with
    | some l => match bytesV l with
      | some bs => some ⟨⟨bs⟩⟩
      | none => none
    | none => none
  | _ => none

theorem oB_ok {α : Type} {x : Option α} {f : α → Prop} (h : oB x f) : ∃ a, x = some a ∧ f a := by
  unfold oB at h; split at h
  · exact ⟨_, rfl, h⟩
  · exact h.elim
theorem oP_ok {x : Option (Value × AW)} {f : Value → AW → Prop} (h : oP x f) : ∃ v h', x = some (v, h') ∧ f v h' := by
  unfold oP at h; split at h
  · exact ⟨_, _, rfl, h⟩
  · exact h.elim
theorem bC_ok {b : Bool} {p q : Prop} (h : bC b p q) : (b = true ∧ p) ∨ (b = false ∧ q) := by
  unfold bC at h; cases b
  · exact .inr ⟨rfl, h⟩
  · exact .inl ⟨rfl, h⟩
theorem vInt_ok {k : IntKind} {v : Value} {f : Int → Prop} (h : vInt k v f) : ∃ n, v = .int k n ∧ f n := by
  unfold vInt at h; split at h
  · rcases bC_ok h with ⟨e, x⟩ | ⟨_, x⟩
    · have := of_decide_eq_true e; subst this; exact ⟨_, rfl, x⟩
    · exact x.elim
  · exact h.elim
theorem vBool_ok {v : Value} {f : Bool → Prop} (h : vBool v f) : ∃ b, v = .bool b ∧ f b := by
  unfold vBool at h; split at h
  · exact ⟨_, rfl, h⟩
  · exact h.elim
theorem vStr_ok {v : Value} {f : ByteArray → Prop} (h : vStr v f) : ∃ b, v = .string b ∧ f b := by
  unfold vStr at h; split at h
  · exact ⟨_, rfl, h⟩
  · exact h.elim
theorem vPtr_ok {v : Value} {f : Option Addr → Prop} (h : vPtr v f) : ∃ b, v = .pointer b ∧ f b := by
  unfold vPtr at h; split at h
  · exact ⟨_, rfl, h⟩
  · exact h.elim
theorem vSl_ok {v : Value} {f : Option Addr → Nat → Nat → Prop} (h : vSl v f) : ∃ a l c, v = .slice a l c ∧ f a l c := by
  unfold vSl at h; split at h
  · exact ⟨_, _, _, rfl, h⟩
  · exact h.elim
theorem vMap_ok {v : Value} {f : Option Nat → Prop} (h : vMap v f) : ∃ b, v = .map b ∧ f b := by
  unfold vMap at h; split at h
  · exact ⟨_, rfl, h⟩
  · exact h.elim
theorem vFun_ok {v : Value} {f : FuncId → List Value → List Value → Prop} (h : vFun v f) : ∃ i a b, v = .func (.func i) a b ∧ f i a.toList b.toList := by
  unfold vFun at h; split at h
  · exact ⟨_, _, _, rfl, h⟩
  · exact h.elim
theorem vIfc_ok {v : Value} {p : Prop} {f : TypeId → Value → Prop} (h : vIfc v p f) : (v = .nilIface ∧ p) ∨ ∃ t x, v = .iface t x ∧ f t x := by
  unfold vIfc at h; split at h
  · exact .inl ⟨rfl, h⟩
  · exact .inr ⟨_, _, rfl, h⟩
  · exact h.elim
theorem vAgg_ok {v : Value} {f : List Value → Prop} (h : vAgg v f) : ∃ cs : Array Value, v = .agg cs ∧ f cs.toList := by
  unfold vAgg at h; split at h
  · exact ⟨_, rfl, h⟩
  · exact h.elim
theorem vTup_ok {v : Value} {f : List Value → Prop} (h : vTup v f) : ∃ cs : Array Value, v = .tuple cs ∧ f cs.toList := by
  unfold vTup at h; split at h
  · exact ⟨_, rfl, h⟩
  · exact h.elim
theorem lC_ok {l : List Value} {f : Value → List Value → Prop} (h : lC l f) : ∃ v r, l = v :: r ∧ f v r := by
  unfold lC at h; split at h
  · exact ⟨_, _, rfl, h⟩
  · exact h.elim
theorem lN_ok {l : List Value} {p : Prop} (h : lN l p) : l = [] ∧ p := by
  unfold lN at h; split at h
  · exact ⟨rfl, h⟩
  · exact h.elim
theorem aP_ok {p : Option Addr} {f : Nat → Nat → Prop} (h : aP p f) : ∃ i off, p = some ⟨i, off, none⟩ ∧ f i off := by
  unfold aP at h; split at h
  · exact ⟨_, _, rfl, h⟩
  · exact h.elim

section
variable (P : Program)

/-! A value of a type, taken apart as far as the walk wants it. -/
def castD (d : TypeDesc) (v : Value) (K : Value → Prop) : Prop :=
  match d with
  | .int k => vInt k v fun n => K (.int k n)
  | .bool => vBool v fun b => K (.bool b)
  | .string => vStr v fun s => K (.string s)
  | .pointer _ => vPtr v fun p => K (.pointer p)
  | .slice _ => vSl v fun a l c => K (.slice a l c)
  | .map _ _ => vMap v fun r => K (.map r)
  | .interface _ => vIfc v (K .nilIface) fun t x => K (.iface t x)
  | _ => K v
def descsL (f : TypeId → Option (List TypeDesc)) : List TypeId → Option (List TypeDesc)
  | [] => some []
  | t :: l => match f t, descsL f l with | some a, some b => some (a ++ b) | _, _ => none
def descs : Nat → TypeId → Option (List TypeDesc)
  | 0, _ => none
  | n + 1, t => match tiOf P t with
    | some ti => match ti.und with
      | .struct fs => descsL (descs n) (fs.toList.map Field.type)
      | .array len e => descsL (descs n) (List.replicate len e)
      | d => some [d]
    | none => none
def castL : List TypeDesc → List Value → (List Value → Prop) → Prop
  | [], l, K => lN l (K [])
  | d :: ds, l, K => lC l fun v l => castD d v fun v => castL ds l fun r => K (v :: r)
def castT (t : TypeId) (v : Value) (K : Value → Prop) : Prop :=
  match tiOf P t with
  | some ti => match ti.agg with
    | true => match descs P 8 t with
      | some ds => vAgg v fun l => castL ds l fun l => K (.agg ⟨l⟩)
      | none => False
    | false => castD ti.und v K
  | none => False
def castR (ts : List TypeId) (v : Value) (K : Value → Prop) : Prop :=
  match ts with
  | [] => K v
  | [t] => castT P t v K
  | ts => vTup v fun l => go ts l fun l => K (.tuple ⟨l⟩)
  where
  go : List TypeId → List Value → (List Value → Prop) → Prop
    | [], l, K => lN l (K [])
    | t :: ts, l, K => lC l fun v l => castT P t v fun v => go ts l fun r => K (v :: r)
def rdCast (h : AW) (i : Nat) : Nat → List TypeDesc → (List Value → Prop) → Prop
  | _, [], K => K []
  | off, d :: ds, K => oB (h.rd i off) fun v => castD d v fun v => rdCast h i (off + 1) ds fun r => K (v :: r)

def kLoad (h : AW) (t : TypeId) (a : Value) (K : Value → Prop) : Prop :=
  match tiOf P t with
  | some ti => vPtr a fun p => aP p fun i off => match ti.agg with
    | true => match descs P 8 t with
      | some ds => match Nat.beq ds.length ti.size with
        | true => rdCast h i off ds fun l => K (.agg ⟨l⟩)
        | false => False
      | none => False
    | false => oB (h.rd i off) fun v => castD ti.und v K
  | none => False

def kNil (v : Value) (K : Value → Prop) : Prop :=
  match v with
  | .pointer p => aP p fun i off => K (ptr i off)
  | v => oB (nilCheckV v) fun v => K v

def isNilC : Operand → Bool
  | .const v => match v with
    | .pointer none | .slice none _ _ | .map none | .nilFunc | .nilIface => true
    | _ => false
  | _ => false

def cellB : TypeDesc → Value → Value → Option Bool
  | .bool, .bool a, .bool b => some (a == b)
  | .int _, .int k a, .int k' b => match decide (k = k') with | true => some (a == b) | false => none
  | .string, .string a, .string b => some (bEq a b)
  | _, _, _ => none
def fieldsB : List Field → List Value → List Value → Option Bool
  | [], [], [] => some true
  | f :: fs, x :: xs, y :: ys => match P.underlying f.type with
    | some d => match cellB d x y, fieldsB fs xs ys with
      | some a, some b => some (a && b)
      | _, _ => none
    | none => none
  | _, _, _ => none
def eqNil (d : TypeDesc) (w : Value) (v : Value) (K : Bool → Prop) : Prop :=
  match d, w with
  | .pointer _, .pointer none => vPtr v fun p => K p.isNone
  | .slice _, .slice none _ _ => vSl v fun a _ _ => K a.isNone
  | .map _ _, .map none => vMap v fun r => K r.isNone
  | .interface _, .nilIface => oB (nilI v) K
  | .func _ _ _, .nilFunc => oB (nilF v) K
  | _, _ => False
def kEq (t : TypeId) (x y : Operand) (vx vy : Value) (K : Bool → Prop) : Prop :=
  match tiOf P t with
  | some ti => match isNilC y with
    | true => eqNil ti.und vy vx K
    | false => match isNilC x with
      | true => eqNil ti.und vx vy K
      | false => match ti.und with
        | .bool => vBool vx fun a => vBool vy fun b => K (a == b)
        | .struct fs => match plainEq P t fs with
          | true => vAgg vx fun xs => vAgg vy fun ys => match fieldsB P fs.toList xs ys with
            | some b => K b
            | none => False
          | false => False
        | _ => oB (eqV P t (isConst x || isConst y) vx vy) K
  | none => False

def kInt (op : BinOp) (k : IntKind) (x y : Int) (K : Value → Prop) : Prop :=
  match op with
  | .quo => bC (decide (y = 0)) False (K (.int k (k.wrap (x.tdiv y))))
  | .rem => bC (decide (y = 0)) False (K (.int k (x.tmod y)))
  | .eql => K (.bool (x == y))
  | .neq => K (.bool (x != y))
  | .add => K (.int k (k.wrap (x + y)))
  | .sub => K (.int k (k.wrap (x - y)))
  | .mul => K (.int k (k.wrap (x * y)))
  | .lss => K (.bool (x < y))
  | .leq => K (.bool (x ≤ y))
  | .gtr => K (.bool (x > y))
  | .geq => K (.bool (x ≥ y))
  | op => match intBin op k x y with | some v => K v | none => False
def kStr (op : BinOp) (x y : ByteArray) (K : Value → Prop) : Prop :=
  match op with
  | .add => bC (Nat.ble (x.size + y.size) 9223372036854775807) (K (.string (x ++ y))) False
  | .eql => K (.bool (bEq x y))
  | .neq => K (.bool !(bEq x y))
  | op => match strBin op x y with | some v => K v | none => False
def kBin0 (op : BinOp) (t : TypeId) (x y : Operand) (vx vy : Value) (K : Value → Prop) : Prop :=
  match vx, vy with
  | .int k a, .int k' b => match op with
    | .shl => bC (decide (b < 0)) False (K (.int k (k.wrap (a * 2 ^ (min b.toNat k.bits)))))
    | .shr => bC (decide (b < 0)) False (K (.int k (a.fdiv (2 ^ (min b.toNat k.bits)))))
    | op => match decide (k = k') with | true => kInt op k a b K | false => False
  | .string a, .string b => kStr op a b K
  | vx, vy => match op with
    | .eql => kEq P t x y vx vy fun b => K (.bool b)
    | .neq => kEq P t x y vx vy fun b => K (.bool !b)
    | _ => False
/-- An interface may be asked whether it is nil, though nothing else is known of it. -/
def kBin (op : BinOp) (t : TypeId) (x y : Operand) (vx vy : Value) (K : Value → Prop) : Prop :=
  match isNilC y, vy with
  | true, .nilIface => (match op with
    | .eql => kEq P t x y vx .nilIface fun b => K (.bool b)
    | .neq => kEq P t x y vx .nilIface fun b => K (.bool !b)
    | _ => False)
  | _, vy => kBin0 P op t x y vx vy K

def kConv (h : AW) (s d : TypeId) (x : Value) (K : Value → AW → Prop) : Prop :=
  match tiOf P s, tiOf P d with
  | some si, some di => match di.und with
    | .int k => (match x with | .int _ n => K (.int k (k.wrap n)) h | _ => False)
    | .string => (match x with
      | .int _ n => K (.string (Utf8.encode n)) h
      | .string b => K (.string b) h
      | .slice a len _ => (match si.und with
        | .slice e => match tiOf P e with
          | some te => match te.und with
            | .int .u8 => oB (h.bytes a len) fun s => K (.string s) h
            | _ => False
          | none => False
        | _ => False)
      | _ => False)
    | .slice _ => oP (convA P h s d x) fun v h => vSl v fun a l c => K (.slice a l c) h
    | _ => False
  | _, _ => False

def kBnd (x : Option Value) (n dflt : Nat) (K : Nat → Prop) : Prop :=
  match x with
  | none => K dflt
  | some v => match v with
    | .int _ z => oB (natBnd z n) K
    | _ => False
def kSlice (h : AW) (t : TypeId) (x : Value) (lo hi : Option Value) (K : Value → Prop) : Prop :=
  match tiOf P t with
  | some ti => match ti.und with
    | .string => vStr x fun s => kBnd hi s.size s.size fun hi => kBnd lo hi 0 fun lo => K (.string (bSub s lo hi))
    | .slice elem => match tiOf P elem with
      | some te => vSl x fun a len cap => kBnd hi cap len fun hi => kBnd lo hi 0 fun l => bC (Nat.ble hi cap) (oB (shO a (l * te.size)) fun a => K (.slice a (hi - l) (cap - l))) False
      | none => False
    | _ => oB (sliceQ P h t x lo hi) fun v => vSl v fun a l c => K (.slice a l c)
  | none => False

def kFieldAddr (t : TypeId) (x : Value) (f : Nat) (K : Value → Prop) : Prop :=
  match tiOf P t with
  | some ti => match ti.und with
    | .struct fs => match fs[f]? with
      | some fd => match tiOf P fd.type with
        | some tf => match Nat.beq tf.size 0 with
          | true => False
          | false => vPtr x fun p => aP p fun b off => K (ptr b (off + fd.offset))
        | none => False
      | none => False
    | _ => False
  | none => False

def kIndexAddr (t : TypeId) (x i : Value) (K : Value → Prop) : Prop :=
  match tiOf P t, i with
  | some ti, .int _ z => match ti.und with
    | .array len elem => match tiOf P elem with
      | some te => vPtr x fun p => aP p fun b off => oB (natIdx z len) fun j => K (ptr b (off + j * te.size))
      | none => False
    | .slice elem => match tiOf P elem with
      | some te => vSl x fun a len _ => aP a fun b off => oB (natIdx z len) fun j => K (ptr b (off + j * te.size))
      | none => False
    | _ => False
  | _, _ => False
def kIndex (t : TypeId) (x i : Value) (K : Value → Prop) : Prop :=
  match tiOf P t, i with
  | some ti, .int _ z => match ti.und with
    | .string => vStr x fun s => oB (natIdx z s.size) fun j => oB (bAt s j) fun b => K (.int .u8 b)
    | .array _ e => oB (indexV P t x i) fun v => castT P e v K
    | _ => False
  | _, _ => False
def kLookup (h : AW) (t : TypeId) (m k : Value) (ok : Bool) (K : Value → Prop) : Prop :=
  match tiOf P t with
  | some ti => match ti.und with
    | .map kt et => match tiOf P kt, tiOf P et with
      | some tk, some te => match keyKind tk.und, te.zero with
        | true, some z => vMap m fun r => oB (h.mapL r) fun es => oB (look tk.und k es) fun w =>
          castT P et (w.getD z) fun v => match ok with
            | true => K (.tuple ⟨[v, .bool w.isSome]⟩)
            | false => K v
        | _, _ => False
      | _, _ => False
    | _ => False
  | none => False

def kQ (o : Op) (F : Fr) (h : AW) (K : Value → Prop) : Prop :=
  match o with
  | .move x => K (F.ev x)
  | .assign x => K (F.ev x)
  | .pick c a b => vBool (F.ev c) fun x => bC x (K (F.ev a)) (K (F.ev b))
  | .build t parts => match buildV P t (parts.toList.map fun p => (p.1, F.ev p.2)) with | some v => K v | none => False
  | .load t a => kLoad P h t (F.ev a) K
  | .nilCheck x => kNil (F.ev x) K
  | .binOp op t x y _ => kBin P op t x y (F.ev x) (F.ev y) K
  | .unOp op _ x => match unV op (F.ev x) with | some v => K v | none => False
  | .makeInterface t x => match tiOf P t with
    | some ti => (match ti.und with | .interface _ => False | _ => K (.iface t (F.ev x)))
    | none => False
  | .makeFunc fn first captured => K (.func fn ⟨vals F first⟩ ⟨vals F captured⟩)
  | .slice t x lo hi none => kSlice P h t (F.ev x) (lo.map F.ev) (hi.map F.ev) K
  | .fieldAddr t x f => kFieldAddr P t (F.ev x) f K
  | .field t x f => match fieldV P t (F.ev x) f with | some v => K v | none => False
  | .indexAddr t x i => kIndexAddr P t (F.ev x) (F.ev i) K
  | .index t x i => kIndex P t (F.ev x) (F.ev i) K
  | .lookup t m k ok => kLookup P h t (F.ev m) (F.ev k) ok K
  | .extract x i => match F.ev x with | .tuple vs => (match vs.toList[i]? with | some v => K v | none => False) | _ => False
  | _ => False

def kLen (h : AW) (t : TypeId) (x : Value) (K : Value → Prop) : Prop :=
  match tiOf P t with
  | some ti => match ti.und with
    | .string => vStr x fun s => K (goInt s.size)
    | .slice _ => vSl x fun _ n _ => K (goInt n)
    | .map _ _ => vMap x fun r => oB (h.mapL r) fun es => K (goInt es.length)
    | .array n _ => K (goInt n)
    | _ => oB (lenB P h #[t] [x]) fun v => vInt .i64 v fun n => K (.int .i64 n)
  | none => False
def kBuiltin (b : Builtin) (ts : Array TypeId) (args : List Value) (h : AW) (K : Value → AW → Prop) : Prop :=
  match b with
  | .len => match ts.toList, args with
    | [t], [x] => kLen P h t x fun v => K v h
    | _, _ => False
  | .cap => oB (capB P h ts args) fun v => vInt .i64 v fun n => K (.int .i64 n) h
  | .min => match args with | x :: l => (match minL x l with | some v => K v h | none => False) | [] => False
  | .max => match args with | x :: l => (match maxL x l with | some v => K v h | none => False) | [] => False
  | .append => oP (appendB P h ts args) fun v h => vSl v fun a l c => K (.slice a l c) h
  | .copy => oP (copyB P h ts args) fun v h => vInt .i64 v fun n => K (.int .i64 n) h
  | .delete => oP (deleteB P h ts args) K
  | .clear => oP (clearB P h ts args) K
  | .unsafeString => oP (ustrB P h ts args) fun v h => vStr v fun s => K (.string s) h
  | _ => False

def kA (o : Op) (F : Fr) (h : AW) (K : Value → AW → Prop) : Prop :=
  match o with
  | .alloc t => match tiOf P t with
    | some ti => match ti.zero with
      | some z => match allOne z.cells.toList with
        | true => K (ptr h.next 0) (h.addVar z.cells.toList)
        | false => False
      | none => False
    | none => False
  | .box _ x => match allOne (F.ev x).cells.toList with
    | true => K (ptr h.next 0) (h.addVar (F.ev x).cells.toList)
    | false => False
  | .buildSlice t len parts => match tiOf P t with
    | some ti => match ti.und with
      | .slice elem => match tiOf P elem with
        | some te => match te.zero, Nat.ble (len * te.size) 16777216 with
          | some z, true => match Nat.beq z.cells.size te.size with
            | true => match Instr.fill (fun i => some (i * te.size, te.size)) ⟨rep z.cells.toList len⟩ (parts.toList.map fun p => (p.1, F.ev p.2)) with
              | some cs => match allOne cs.toList with
                | true => K (.slice (some ⟨h.next, 0, none⟩) len len) (h.addVar cs.toList)
                | false => False
              | none => False
            | false => False
          | _, _ => False
        | none => False
      | _ => False
    | none => False
  | .store t a x => match tiOf P t with
    | some ti => vPtr (F.ev a) fun p => aP p fun i off => match F.ev x with
      | .agg cs => match Nat.beq cs.size ti.size with
        | true => oB (h.wrL i off cs.toList) fun h => K undef h
        | false => False
      | v => match Nat.beq ti.size 1 with
        | true => oB (h.wr i off v) fun h => K undef h
        | false => False
    | none => False
  | .convert s d x => kConv P h s d (F.ev x) K
  | .makeMap _ none => K (.map (some h.next)) h.addMap
  | .makeMap t (some x) => oP (opA P F h (.makeMap t (some x))) fun v h => vMap v fun r => K (.map r) h
  | .makeSlice t l c => oP (makeSliceV P h t (F.ev l) (F.ev c)) fun v h => vSl v fun a l c => K (.slice a l c) h
  | .slice t x lo hi (some mx) => oP (sliceA P h t (F.ev x) (lo.map F.ev) (hi.map F.ev) (F.ev mx)) fun v h => vSl v fun a l c => K (.slice a l c) h
  | .mapUpdate t m k v => oB (mapUpdV P h t (F.ev m) (F.ev k) (F.ev v)) fun h => K undef h
  | .insert t m k v => oB (mapUpdV P h t (F.ev m) (F.ev k) (F.ev v)) fun h => K undef h
  | .call { callee := .builtin b, args, argTypes } => kBuiltin P b argTypes (vals F args) h K
  | o => kQ P o F h fun v => K v h
end
end Go.Abs
end

section
/- Walks, second part: the words are right. -/
namespace Go.Abs
variable {P : Program} {F : Fr} {h : AW}

theorem castD_ok {d : TypeDesc} {v : Value} {K : Value → Prop} (H : castD d v K) : K v := by
  unfold castD at H
  split at H
  · obtain ⟨n, rfl, x⟩ := vInt_ok H; exact x
  · obtain ⟨n, rfl, x⟩ := vBool_ok H; exact x
  · obtain ⟨n, rfl, x⟩ := vStr_ok H; exact x
  · obtain ⟨n, rfl, x⟩ := vPtr_ok H; exact x
  · obtain ⟨a, l, c, rfl, x⟩ := vSl_ok H; exact x
  · obtain ⟨n, rfl, x⟩ := vMap_ok H; exact x
  · rcases vIfc_ok H with ⟨rfl, x⟩ | ⟨t, y, rfl, x⟩ <;> exact x
  · exact H
theorem castL_ok : ∀ {ds : List TypeDesc} {l : List Value} {K : List Value → Prop}, castL ds l K → K l
  | [], l, K, H => by
    obtain ⟨rfl, x⟩ := lN_ok H
    exact x
  | d :: ds, l, K, H => by
    obtain ⟨v, r, rfl, x⟩ := lC_ok H
    exact castL_ok (K := fun r => K (v :: r)) (castD_ok (K := fun v => castL ds r fun r => K (v :: r)) x)
theorem castT_ok {t : TypeId} {v : Value} {K : Value → Prop} (H : castT P t v K) : K v := by
  unfold castT at H
  split at H
  · split at H
    · split at H
      · obtain ⟨cs, rfl, x⟩ := vAgg_ok H
        exact castL_ok x
      · exact H.elim
    · exact castD_ok H
  · exact H.elim
theorem castRgo_ok : ∀ {ts : List TypeId} {l : List Value} {K : List Value → Prop}, castR.go P ts l K → K l
  | [], l, K, H => by
    obtain ⟨rfl, x⟩ := lN_ok H
    exact x
  | d :: ds, l, K, H => by
    obtain ⟨v, r, rfl, x⟩ := lC_ok H
    exact castRgo_ok (K := fun r => K (v :: r)) (castT_ok (K := fun v => castR.go P ds r fun r => K (v :: r)) x)
theorem rdCast_ok {i : Nat} : ∀ {ds : List TypeDesc} {off : Nat} {K : List Value → Prop}, rdCast h i off ds K → ∃ l, h.rdN i off ds.length = some l ∧ K l
  | [], off, K, H => ⟨[], rfl, H⟩
  | d :: ds, off, K, H => by
    obtain ⟨v, e, x⟩ := oB_ok H
    obtain ⟨l, e', x⟩ := rdCast_ok (castD_ok x)
    refine ⟨v :: l, ?_, x⟩
    simp only [List.length_cons, AW.rdN, e, e']
theorem kLoad_ok {t : TypeId} {a : Value} {K : Value → Prop} (H : kLoad P h t a K) : ∃ v, loadV P h t a = some v ∧ K v := by
  unfold kLoad at H
  split at H
  · rename_i ti ht
    obtain ⟨p, rfl, H⟩ := vPtr_ok H
    obtain ⟨i, off, rfl, H⟩ := aP_ok H
    simp only [loadV, ht]
    split at H
    · rename_i ha
      simp only [ha]
      split at H
      · split at H
        · rename_i hl
          obtain ⟨l, e, x⟩ := rdCast_ok H
          rw [Nat.eq_of_beq_eq_true hl] at e
          rw [e]
          exact ⟨_, rfl, x⟩
        · exact H.elim
      · exact H.elim
    · rename_i ha
      simp only [ha]
      obtain ⟨v, e, x⟩ := oB_ok H
      exact ⟨v, e, castD_ok x⟩
  · exact H.elim
theorem kNil_ok {v : Value} {K : Value → Prop} (H : kNil v K) : ∃ v', nilCheckV v = some v' ∧ K v' := by
  unfold kNil at H
  split at H
  · obtain ⟨i, off, rfl, H⟩ := aP_ok H
    exact ⟨_, rfl, H⟩
  · exact oB_ok H
theorem cellB_ok {d : TypeDesc} {x y : Value} {b : Bool} (H : cellB d x y = some b) : cellFits d x = true ∧ cellEq x y = some b := by
  unfold cellB at H
  split at H
  · exact ⟨rfl, H⟩
  · split at H
    · rename_i e
      have := of_decide_eq_true e; subst this
      simp only [cellFits, cellEq, if_pos]
      exact ⟨trivial, H⟩
    · cases H
  · exact ⟨rfl, H⟩
  · cases H
theorem fieldsB_ok : ∀ {fs : List Field} {xs ys : List Value} {b : Bool}, fieldsB P fs xs ys = some b → fieldsEq P fs xs ys = some b
  | [], [], [], b, H => H
  | f :: fs, x :: xs, y :: ys, b, H => by
    simp only [fieldsB] at H
    simp only [fieldsEq]
    split at H
    · rename_i d hd
      rw [hd]; simp only
      split at H
      · rename_i a c ha hc
        obtain ⟨h1, h2⟩ := cellB_ok ha
        simp only [h1, h2]
        have := fieldsB_ok hc
        cases a with
        | true => simp only; rw [this]; simpa using H
        | false => simpa using H
      · cases H
    · cases H
  | [], [], _ :: _, b, H => by simp [fieldsB] at H
  | [], _ :: _, _, b, H => by simp [fieldsB] at H
  | _ :: _, [], _, b, H => by simp [fieldsB] at H
  | _ :: _, _ :: _, [], b, H => by simp [fieldsB] at H
theorem eqNil_ok {t : TypeId} {ti : TI} (ht : tiOf P t = some ti) {v w : Value} {K : Bool → Prop} (H : eqNil ti.und w v K) :
    ∃ b, eqV P t true w v = some b ∧ eqV P t true v w = some b ∧ K b := by
  unfold eqNil at H
  split at H
  · rename_i e hu
    obtain ⟨p, rfl, x⟩ := vPtr_ok H
    refine ⟨_, ?_, ?_, x⟩
    · unfold eqV; rw [ht]; simp only [hu]
    · unfold eqV; rw [ht]; simp only [hu]; cases p <;> rfl
  · rename_i e l c hu
    obtain ⟨p, l', c', rfl, x⟩ := vSl_ok H
    refine ⟨_, ?_, ?_, x⟩
    · unfold eqV; rw [ht]; simp only [hu]
    · unfold eqV; rw [ht]; simp only [hu]; cases p <;> rfl
  · rename_i e e' hu
    obtain ⟨p, rfl, x⟩ := vMap_ok H
    refine ⟨_, ?_, ?_, x⟩
    · unfold eqV; rw [ht]; simp only [hu]
    · unfold eqV; rw [ht]; simp only [hu]; cases p <;> rfl
  · rename_i e hu
    obtain ⟨b, e', x⟩ := oB_ok H
    refine ⟨b, ?_, ?_, x⟩ <;> (unfold eqV; rw [ht]; simp only [hu]; unfold nilI at e'; split at e' <;> first | exact e' | cases e')
  · rename_i e1 e2 e3 hu
    obtain ⟨b, e', x⟩ := oB_ok H
    refine ⟨b, ?_, ?_, x⟩ <;> (unfold eqV; rw [ht]; simp only [hu]; unfold nilF at e'; split at e' <;> first | exact e' | cases e')
  · exact H.elim
theorem isNilC_const {x : Operand} (h : isNilC x = true) : isConst x = true := by
  cases x <;> simp [isNilC] at h <;> rfl
theorem kEq_ok {t : TypeId} {x y : Operand} {vx vy : Value} {K : Bool → Prop} (H : kEq P t x y vx vy K) : ∃ b, eqV P t (isConst x || isConst y) vx vy = some b ∧ K b := by
  unfold kEq at H
  split at H
  · rename_i ti ht
    split at H
    · rename_i hy
      obtain ⟨b, _, e, k⟩ := eqNil_ok ht H
      rw [isNilC_const hy, Bool.or_true]
      exact ⟨b, e, k⟩
    · split at H
      · rename_i hx
        obtain ⟨b, e, _, k⟩ := eqNil_ok ht H
        rw [isNilC_const hx, Bool.true_or]
        exact ⟨b, e, k⟩
      · split at H
        · rename_i hu
          obtain ⟨a, rfl, H1⟩ := vBool_ok H
          obtain ⟨b, rfl, H2⟩ := vBool_ok H1
          refine ⟨_, ?_, H2⟩
          unfold eqV; rw [ht]; simp only [hu]
        · rename_i fs hu
          split at H
          · rename_i hp
            obtain ⟨xs, rfl, H1⟩ := vAgg_ok H
            obtain ⟨ys, rfl, H2⟩ := vAgg_ok H1
            split at H2
            · rename_i b hb
              refine ⟨b, ?_, H2⟩
              unfold eqV; rw [ht]; simp only [hu, hp]
              exact fieldsB_ok hb
            · exact H2.elim
          · exact H.elim
        · exact oB_ok H
  · exact H.elim
theorem kInt_ok {op : BinOp} {k : IntKind} {x y : Int} {K : Value → Prop} (H : kInt op k x y K) : ∃ v, intBin op k x y = some v ∧ K v := by
  unfold kInt at H
  split at H
  · rcases bC_ok H with ⟨_, x⟩ | ⟨e, x⟩
    · exact x.elim
    · exact ⟨_, by simp only [intBin]; rw [if_neg (of_decide_eq_false e)], x⟩
  · rcases bC_ok H with ⟨_, x⟩ | ⟨e, x⟩
    · exact x.elim
    · exact ⟨_, by simp only [intBin]; rw [if_neg (of_decide_eq_false e)], x⟩
  all_goals first | exact ⟨_, rfl, H⟩ | skip
  split at H
  · rename_i v hv
    exact ⟨v, hv, H⟩
  · exact H.elim
theorem kStr_ok {op : BinOp} {x y : ByteArray} {K : Value → Prop} (H : kStr op x y K) : ∃ v, strBin op x y = some v ∧ K v := by
  unfold kStr at H
  split at H
  · rcases bC_ok H with ⟨e, x⟩ | ⟨e, x⟩
    · exact ⟨_, by simp only [strBin]; rw [e], x⟩
    · exact x.elim
  all_goals first | exact ⟨_, rfl, H⟩ | skip
  split at H
  · rename_i v hv
    exact ⟨v, hv, H⟩
  · exact H.elim
theorem kBin0_ok {op : BinOp} {t : TypeId} {x y : Operand} {vx vy : Value} {K : Value → Prop} (H : kBin0 P op t x y vx vy K) : ∃ v, binV P op t (isConst x || isConst y) vx vy = some v ∧ K v := by
  unfold kBin0 at H
  split at H
  · split at H
    · rcases bC_ok H with ⟨_, x⟩ | ⟨e, x⟩
      · exact x.elim
      · exact ⟨_, by simp only [binV]; rw [if_neg (of_decide_eq_false e)], x⟩
    · rcases bC_ok H with ⟨_, x⟩ | ⟨e, x⟩
      · exact x.elim
      · exact ⟨_, by simp only [binV]; rw [if_neg (of_decide_eq_false e)], x⟩
    · rename_i h1 h2
      split at H
      · rename_i e
        have := of_decide_eq_true e
        obtain ⟨v, hv, x⟩ := kInt_ok H
        refine ⟨v, ?_, x⟩
        cases op <;> first | (exact absurd rfl h1) | (exact absurd rfl h2) | (simp only [binV]; rw [if_pos this]; exact hv)
      · exact H.elim
  · obtain ⟨v, hv, x⟩ := kStr_ok H
    refine ⟨v, ?_, x⟩
    cases op <;> first | exact hv | (simp [strBin] at hv)
  · rename_i h1 h2
    split at H
    · obtain ⟨b, hb, x⟩ := kEq_ok H
      refine ⟨_, ?_, x⟩
      have : ∀ lit, binV P .eql t lit vx vy = (match eqV P t lit vx vy with | some b => some (.bool b) | none => none) := by
        intro lit
        cases vx <;> cases vy <;> first | rfl | exact (h1 _ _ _ _ rfl rfl).elim | exact (h2 _ _ rfl rfl).elim
      rw [this, hb]
    · obtain ⟨b, hb, x⟩ := kEq_ok H
      refine ⟨_, ?_, x⟩
      have : ∀ lit, binV P .neq t lit vx vy = (match eqV P t lit vx vy with | some b => some (.bool !b) | none => none) := by
        intro lit
        cases vx <;> cases vy <;> first | rfl | exact (h1 _ _ _ _ rfl rfl).elim | exact (h2 _ _ rfl rfl).elim
      rw [this, hb]
    · exact H.elim
theorem kBin_ok {op : BinOp} {t : TypeId} {x y : Operand} {vx vy : Value} {K : Value → Prop} (H : kBin P op t x y vx vy K) : ∃ v, binV P op t (isConst x || isConst y) vx vy = some v ∧ K v := by
  unfold kBin at H
  split at H
  · split at H
    · obtain ⟨b, hb, k⟩ := kEq_ok H
      refine ⟨_, ?_, k⟩
      have : ∀ lit, binV P .eql t lit vx .nilIface = (match eqV P t lit vx .nilIface with | some b => some (.bool b) | none => none) := by
        intro lit
        cases vx <;> rfl
      rw [this, hb]
    · obtain ⟨b, hb, k⟩ := kEq_ok H
      refine ⟨_, ?_, k⟩
      have : ∀ lit, binV P .neq t lit vx .nilIface = (match eqV P t lit vx .nilIface with | some b => some (.bool !b) | none => none) := by
        intro lit
        cases vx <;> rfl
      rw [this, hb]
    · exact H.elim
  · exact kBin0_ok H
theorem natIdx_idx {k : IntKind} {z : Int} {n : Nat} : idx (.int k z) n = natIdx z n := by
  unfold idx natIdx
  cases z <;> rfl
theorem natBnd_bnd {k : IntKind} {z : Int} {n : Nat} : bnd (.int k z) n = natBnd z n := by
  unfold bnd natBnd
  cases z <;> rfl
theorem kBnd_ok {x : Option Value} {n d : Nat} {K : Nat → Prop} (H : kBnd x n d K) : ∃ m, bndO x n d = some m ∧ K m := by
  unfold kBnd at H
  split at H
  · exact ⟨_, rfl, H⟩
  · split at H
    · rename_i k z
      obtain ⟨m, e, x⟩ := oB_ok H
      exact ⟨m, by simp only [bndO]; rw [natBnd_bnd, e], x⟩
    · exact H.elim
theorem bytes_ok {s d : TypeId} {a : Option Addr} {len c : Nat} {si di te : TI} {e : TypeId} {b : ByteArray} (hs : tiOf P s = some si) (hd : tiOf P d = some di) (hdu : di.und = .string) (hsu : si.und = .slice e) (he : tiOf P e = some te) (hte : te.und = .int .u8)
    (hb : h.bytes a len = some b) : convQ P h s d (.slice a len c) = some (.string b) := by
  unfold convQ
  rw [hs, hd]
  simp only [hdu]
  unfold AW.bytes at hb
  split at hb
  · simp only [hsu, he, hte]; cases hb; rfl
  · simp only [hsu, he, hte]
    split at hb
    · rename_i l hl
      rw [hl]; simp only
      split at hb
      · rename_i bs hbs
        cases hb
        rw [hbs]
      · cases hb
    · cases hb
  · cases hb
theorem kConv_ok {s d : TypeId} {x : Value} {K : Value → AW → Prop} (H : kConv P h s d x K) : ∃ v h', (match convQ P h s d x with | some v => some (v, h) | none => convA P h s d x) = some (v, h') ∧ K v h' := by
  unfold kConv at H
  split at H
  · rename_i si di hs hd
    split at H
    · rename_i k hu
      split at H
      · refine ⟨_, _, ?_, H⟩
        unfold convQ; rw [hs, hd]; simp only [hu]
      · exact H.elim
    · rename_i hu
      split at H
      · refine ⟨_, _, ?_, H⟩
        unfold convQ; rw [hs, hd]; simp only [hu]
      · refine ⟨_, _, ?_, H⟩
        unfold convQ; rw [hs, hd]; simp only [hu]
      · split at H
        · rename_i e hsu
          split at H
          · rename_i te he
            split at H
            · rename_i hte
              obtain ⟨b, hb, x⟩ := oB_ok H
              refine ⟨_, _, ?_, x⟩
              rw [bytes_ok hs hd hu hsu he hte hb]
            · exact H.elim
          · exact H.elim
        · exact H.elim
      · exact H.elim
    · rename_i e hu
      obtain ⟨v, h', e', y⟩ := oP_ok H
      obtain ⟨a, l, c, rfl, y⟩ := vSl_ok y
      refine ⟨_, _, ?_, y⟩
      have : convQ P h s d x = none := by unfold convQ; rw [hs, hd]; simp only [hu]
      rw [this]
      exact e'
    · exact H.elim
  · exact H.elim
end Go.Abs
end

section
/- Walks, third part: operations. -/
namespace Go.Abs
variable {P : Program} {F : Fr} {h : AW}

theorem kSlice_ok {t : TypeId} {x : Value} {lo hi : Option Value} {K : Value → Prop} (H : kSlice P h t x lo hi K) : ∃ v, sliceQ P h t x lo hi = some v ∧ K v := by
  unfold kSlice at H
  split at H
  · rename_i ti ht
    split at H
    · rename_i hu
      have H' := vStr_ok H; clear H; obtain ⟨s, rfl, H⟩ := H'
      have H' := kBnd_ok H; clear H; obtain ⟨b, e, H⟩ := H'
      have H' := kBnd_ok H; clear H; obtain ⟨a, e', H⟩ := H'
      refine ⟨_, ?_, H⟩
      unfold sliceQ; rw [ht]; simp only [hu, e, e']; rfl
    · rename_i el hu
      split at H
      · rename_i te he
        have H' := vSl_ok H; clear H; obtain ⟨a, len, cap, rfl, H⟩ := H'
        have H' := kBnd_ok H; clear H; obtain ⟨b, e, H⟩ := H'
        have H' := kBnd_ok H; clear H; obtain ⟨c, e', H⟩ := H'
        rcases bC_ok H with ⟨e2, H⟩ | ⟨_, H⟩
        · have H' := oB_ok H; clear H; obtain ⟨a', ea, H⟩ := H'
          refine ⟨_, ?_, H⟩
          unfold sliceQ; rw [ht]; simp only [hu, e, e', he, e2]
          unfold shO at ea
          split at ea
          · cases ea; rfl
          · cases ea; rfl
          · cases ea
        · exact H.elim
      · exact H.elim
    · have H' := oB_ok H; clear H; obtain ⟨v, e, H⟩ := H'
      have H' := vSl_ok H; clear H; obtain ⟨a, l, c, rfl, H⟩ := H'
      exact ⟨_, e, H⟩
  · exact H.elim
theorem kFieldAddr_ok {t : TypeId} {x : Value} {f : Nat} {K : Value → Prop} (H : kFieldAddr P t x f K) : ∃ v, fieldAddrV P t x f = some v ∧ K v := by
  unfold kFieldAddr at H
  split at H
  · rename_i ti ht
    split at H
    · rename_i fs hu
      split at H
      · rename_i fd hf
        split at H
        · rename_i tf htf
          split at H
          · exact H.elim
          · rename_i hz
            have H' := vPtr_ok H; clear H; obtain ⟨p, rfl, H⟩ := H'
            have H' := aP_ok H; clear H; obtain ⟨i, off, rfl, H⟩ := H'
            refine ⟨_, ?_, H⟩
            unfold fieldAddrV; rw [ht]; simp only [hu, hf, htf, hz]
        · exact H.elim
      · exact H.elim
    · exact H.elim
  · exact H.elim
theorem kIndexAddr_ok {t : TypeId} {x i : Value} {K : Value → Prop} (H : kIndexAddr P t x i K) : ∃ v, indexAddrV P t x i = some v ∧ K v := by
  unfold kIndexAddr at H
  split at H
  · rename_i ti k z ht
    split at H
    · rename_i len el hu
      split at H
      · rename_i te he
        have H' := vPtr_ok H; clear H; obtain ⟨p, rfl, H⟩ := H'
        have H' := aP_ok H; clear H; obtain ⟨i, off, rfl, H⟩ := H'
        have H' := oB_ok H; clear H; obtain ⟨j, e, H⟩ := H'
        refine ⟨_, ?_, H⟩
        unfold indexAddrV; rw [ht]; simp only [hu, natIdx_idx, e, he]
      · exact H.elim
    · rename_i el hu
      split at H
      · rename_i te he
        have H' := vSl_ok H; clear H; obtain ⟨p, len, cap, rfl, H⟩ := H'
        have H' := aP_ok H; clear H; obtain ⟨i, off, rfl, H⟩ := H'
        have H' := oB_ok H; clear H; obtain ⟨j, e, H⟩ := H'
        refine ⟨_, ?_, H⟩
        unfold indexAddrV; rw [ht]; simp only [hu, natIdx_idx, e, he]
      · exact H.elim
    · exact H.elim
  · exact H.elim
theorem kIndex_ok {t : TypeId} {x i : Value} {K : Value → Prop} (H : kIndex P t x i K) : ∃ v, indexV P t x i = some v ∧ K v := by
  unfold kIndex at H
  split at H
  · rename_i ti k z ht
    split at H
    · rename_i hu
      have H' := vStr_ok H; clear H; obtain ⟨s, rfl, H⟩ := H'
      have H' := oB_ok H; clear H; obtain ⟨j, e, H⟩ := H'
      have H' := oB_ok H; clear H; obtain ⟨b, e', H⟩ := H'
      refine ⟨_, ?_, H⟩
      unfold indexV; rw [ht]; simp only [hu, natIdx_idx, e]
      unfold bAt at e'
      split at e'
      · rename_i hb; rw [hb]; cases e'; rfl
      · cases e'
    · have H' := oB_ok H; clear H; obtain ⟨v, e, H⟩ := H'
      exact ⟨v, e, castT_ok H⟩
    · exact H.elim
  · exact H.elim
theorem kLookup_ok {t : TypeId} {m k : Value} {ok : Bool} {K : Value → Prop} (H : kLookup P h t m k ok K) : ∃ v, lookupV P h t m k ok = some v ∧ K v := by
  unfold kLookup at H
  split at H
  · rename_i ti ht
    split at H
    · rename_i kt et hu
      split at H
      · rename_i tk te hk he
        split at H
        · rename_i z h1 h2
          have H' := vMap_ok H; clear H; obtain ⟨r, rfl, H⟩ := H'
          have H' := oB_ok H; clear H; obtain ⟨es, e, H⟩ := H'
          have H' := oB_ok H; clear H; obtain ⟨w, e', H⟩ := H'
          have H := castT_ok H
          refine ⟨match ok with | true => .tuple ⟨[w.getD z, .bool w.isSome]⟩ | false => w.getD z, ?_, by cases ok <;> exact H⟩
          · unfold lookupV; rw [ht]; simp only [hu, hk, he, h1, h2]
            unfold AW.mapL at e
            split at e
            · cases e
              simp only [look] at e'
              cases e'
              cases ok <;> rfl
            · simp only
              split at e
              · rename_i es' ho
                cases e
                rw [ho]; simp only
                rw [e']
                cases w <;> cases ok <;> rfl
              · cases e
        · exact H.elim
      · exact H.elim
    · exact H.elim
  · exact H.elim

theorem kQ_ok {o : Op} {K : Value → Prop} (H : kQ P o F h K) : ∃ v, opQ P F h o = some v ∧ K v := by
  unfold kQ at H
  split at H
  · exact ⟨_, rfl, H⟩
  · exact ⟨_, rfl, H⟩
  · have H' := vBool_ok H; clear H; obtain ⟨b, e, H⟩ := H'
    rcases bC_ok H with ⟨rfl, H⟩ | ⟨rfl, H⟩
    · exact ⟨_, by simp only [opQ]; rw [e], H⟩
    · exact ⟨_, by simp only [opQ]; rw [e], H⟩
  · split at H
    · rename_i v e; exact ⟨v, e, H⟩
    · exact H.elim
  · exact kLoad_ok H
  · exact kNil_ok H
  · exact kBin_ok H
  · split at H
    · rename_i v e; exact ⟨v, e, H⟩
    · exact H.elim
  · split at H
    · rename_i ti ht
      split at H
      · exact H.elim
      · rename_i hn
        refine ⟨_, ?_, H⟩
        simp only [opQ]; rw [ht]; simp only
        try (split <;> first | rfl | (rename_i e; exact (hn _ e).elim))
    · exact H.elim
  · exact ⟨_, rfl, H⟩
  · exact kSlice_ok H
  · exact kFieldAddr_ok H
  · split at H
    · rename_i v e; exact ⟨v, e, H⟩
    · exact H.elim
  · exact kIndexAddr_ok H
  · exact kIndex_ok H
  · exact kLookup_ok H
  · split at H
    · rename_i vs e
      split at H
      · rename_i v e'
        refine ⟨v, ?_, H⟩
        simp only [opQ]; rw [e]
        simpa using e'
      · exact H.elim
    · exact H.elim
  · exact H.elim

theorem kLen_ok {t : TypeId} {x : Value} {K : Value → Prop} (H : kLen P h t x K) : ∃ v, lenB P h #[t] [x] = some v ∧ K v := by
  unfold kLen at H
  split at H
  · rename_i ti ht
    split at H
    · rename_i hu
      have H' := vStr_ok H; clear H; obtain ⟨s, rfl, H⟩ := H'
      refine ⟨_, ?_, H⟩
      unfold lenB; simp only; rw [ht]; simp only [hu]
    · rename_i e hu
      have H' := vSl_ok H; clear H; obtain ⟨a, n, c, rfl, H⟩ := H'
      refine ⟨_, ?_, H⟩
      unfold lenB; simp only; rw [ht]; simp only [hu]
    · rename_i e e' hu
      have H' := vMap_ok H; clear H; obtain ⟨r, rfl, H⟩ := H'
      have H' := oB_ok H; clear H; obtain ⟨es, e, H⟩ := H'
      refine ⟨_, ?_, H⟩
      unfold lenB; simp only; rw [ht]; simp only [hu]
      unfold AW.mapL at e
      split at e
      · cases e; rfl
      · simp only
        split at e
        · rename_i ho; cases e; rw [ho]
        · cases e
    · rename_i n e hu
      refine ⟨_, ?_, H⟩
      unfold lenB; simp only; rw [ht]; simp only [hu]
    · have H' := oB_ok H; clear H; obtain ⟨v, e, H⟩ := H'
      have H' := vInt_ok H; clear H; obtain ⟨n, rfl, H⟩ := H'
      exact ⟨_, e, H⟩
  · exact H.elim

theorem kBuiltin_ok {b : Builtin} {ts : Array TypeId} {args : List Value} {K : Value → AW → Prop} (H : kBuiltin P b ts args h K) :
    ∃ v h', (match builtinQ P h b ts args with | some v => some (v, h) | none => builtinA P h b ts args) = some (v, h') ∧ K v h' := by
  unfold kBuiltin at H
  split at H
  · split at H
    · rename_i t x hts
      have H' := kLen_ok H; clear H; obtain ⟨v, e, H⟩ := H'
      refine ⟨_, _, ?_, H⟩
      have : builtinQ P h .len ts [x] = some v := by
        simp only [builtinQ]
        rw [← e]
        unfold lenB
        simp only [hts]
      rw [this]
    · exact H.elim
  · have H' := oB_ok H; clear H; obtain ⟨v, e, H⟩ := H'
    have H' := vInt_ok H; clear H; obtain ⟨n, rfl, H⟩ := H'
    refine ⟨_, _, ?_, H⟩
    simp only [builtinQ]; rw [e]
  · split at H
    · split at H
      · rename_i v e
        refine ⟨_, _, ?_, H⟩
        simp only [builtinQ]; rw [e]
      · exact H.elim
    · exact H.elim
  · split at H
    · split at H
      · rename_i v e
        refine ⟨_, _, ?_, H⟩
        simp only [builtinQ]; rw [e]
      · exact H.elim
    · exact H.elim
  · have H' := oP_ok H; clear H; obtain ⟨v, h', e, H⟩ := H'
    have H' := vSl_ok H; clear H; obtain ⟨a, l, c, rfl, H⟩ := H'
    exact ⟨_, _, by simp only [builtinQ, builtinA]; exact e, H⟩
  · have H' := oP_ok H; clear H; obtain ⟨v, h', e, H⟩ := H'
    have H' := vInt_ok H; clear H; obtain ⟨n, rfl, H⟩ := H'
    exact ⟨_, _, by simp only [builtinQ, builtinA]; exact e, H⟩
  · have H' := oP_ok H; clear H; obtain ⟨v, h', e, H⟩ := H'
    exact ⟨_, _, by simp only [builtinQ, builtinA]; exact e, H⟩
  · have H' := oP_ok H; clear H; obtain ⟨v, h', e, H⟩ := H'
    exact ⟨_, _, by simp only [builtinQ, builtinA]; exact e, H⟩
  · have H' := oP_ok H; clear H; obtain ⟨v, h', e, H⟩ := H'
    have H' := vStr_ok H; clear H; obtain ⟨s, rfl, H⟩ := H'
    exact ⟨_, _, by simp only [builtinQ, builtinA]; exact e, H⟩
  · exact H.elim

theorem kA_ok {o : Op} {K : Value → AW → Prop} (H : kA P o F h K) : ∃ v h', opV P F h o = some (v, h') ∧ K v h' := by
  unfold kA at H
  split at H
  · split at H
    · rename_i ti ht
      split at H
      · rename_i z hz
        split at H
        · rename_i ha
          refine ⟨_, _, ?_, H⟩
          simp only [opV, opQ, opA]; rw [ht]; simp only [hz, AW.newVar]; rw [ha]; rfl
        · exact H.elim
      · exact H.elim
    · exact H.elim
  · split at H
    · rename_i ha
      refine ⟨_, _, ?_, H⟩
      simp only [opV, opQ, opA, AW.newVar]; rw [ha]; rfl
    · exact H.elim
  · split at H
    · rename_i ti ht
      split at H
      · rename_i el hu
        split at H
        · rename_i te he
          split at H
          · rename_i z h1 h2
            split at H
            · rename_i hb
              split at H
              · rename_i cs hcs
                split at H
                · rename_i ha
                  refine ⟨_, _, ?_, H⟩
                  simp only [opV, opQ, opA, buildSliceV]; rw [ht]; simp only [hu, he, h1, h2, hb]
                  rw [hcs]; simp only [AW.newVar]; rw [ha]; rfl
                · exact H.elim
              · exact H.elim
            · exact H.elim
          · exact H.elim
        · exact H.elim
      · exact H.elim
    · exact H.elim
  · rename_i t a x
    split at H
    · rename_i ti ht
      have H' := vPtr_ok H; clear H; obtain ⟨p, ep, H⟩ := H'
      have H' := aP_ok H; clear H; obtain ⟨i, off, rfl, H⟩ := H'
      split at H
      · rename_i cs hx
        split at H
        · rename_i hb
          have H' := oB_ok H; clear H; obtain ⟨h', e, H⟩ := H'
          refine ⟨_, _, ?_, H⟩
          simp only [opV, opQ, opA, storeV]; rw [ep, hx]; simp only; rw [ht]; simp only [hb]; rw [e]
        · exact H.elim
      · rename_i hx
        split at H
        · rename_i hb
          have H' := oB_ok H; clear H; obtain ⟨h', e, H⟩ := H'
          refine ⟨_, _, ?_, H⟩
          simp only [opV, opQ, opA, storeV]; rw [ep]; simp only; rw [ht]; simp only
          generalize hw : F.ev x = w at hx e ⊢
          cases w <;> first | exact (hx _ rfl).elim | (simp only [hb]; rw [e])
        · exact H.elim
    · exact H.elim
  · have H' := kConv_ok H; clear H; obtain ⟨v, h', e, H⟩ := H'
    exact ⟨v, h', by simp only [opV, opQ, opA]; exact e, H⟩
  · exact ⟨_, _, rfl, H⟩
  · have H' := oP_ok H; clear H; obtain ⟨v, h', e, H⟩ := H'
    have H' := vMap_ok H; clear H; obtain ⟨r, rfl, H⟩ := H'
    exact ⟨_, _, by simp only [opV, opQ]; exact e, H⟩
  · have H' := oP_ok H; clear H; obtain ⟨v, h', e, H⟩ := H'
    have H' := vSl_ok H; clear H; obtain ⟨a, l, c, rfl, H⟩ := H'
    exact ⟨_, _, by simp only [opV, opQ, opA]; exact e, H⟩
  · have H' := oP_ok H; clear H; obtain ⟨v, h', e, H⟩ := H'
    have H' := vSl_ok H; clear H; obtain ⟨a, l, c, rfl, H⟩ := H'
    exact ⟨_, _, by simp only [opV, opQ, opA]; exact e, H⟩
  · have H' := oB_ok H; clear H; obtain ⟨h', e, H⟩ := H'
    exact ⟨_, _, by simp only [opV, opQ, opA]; rw [e], H⟩
  · have H' := oB_ok H; clear H; obtain ⟨h', e, H⟩ := H'
    exact ⟨_, _, by simp only [opV, opQ, opA]; rw [e], H⟩
  · have H' := kBuiltin_ok H; clear H; obtain ⟨v, h', e, H⟩ := H'
    exact ⟨v, h', by simp only [opV, opQ, opA]; exact e, H⟩
  · have H' := kQ_ok H; clear H; obtain ⟨v, e, H⟩ := H'
    exact ⟨v, h, by simp only [opV]; rw [e], H⟩
end Go.Abs
end

section
/- Walks, fourth part: frames that say less. -/
namespace Go.Abs
variable {P : Program} {F F' : Fr} {h : AW}

def present (F : Fr) : List Operand → Bool
  | [] => true
  | .tmp t :: l => (F.t.get? t).isSome && present F l
  | _ :: l => present F l

/-- What F holds, F' holds too. -/
structure Sub (F F' : Fr) : Prop where
  n : F.n = F'.n
  t : ∀ (t : Nat) (v : Value), F.t.get? t = some v → F'.t.get? t = some v

theorem Sub.refl (F : Fr) : Sub F F := ⟨rfl, fun _ _ h => h⟩
theorem Sub.get (S : Sub F F') {t : Nat} (h : (F.t.get? t).isSome = true) : F'.t.get? t = F.t.get? t := by
  cases e : F.t.get? t with
  | none => rw [e] at h; cases h
  | some v => exact S.t t v e
theorem ev_all (S : Sub F F') : ∀ {l : List Operand}, present F l = true → ∀ x, x ∈ l → F'.ev x = F.ev x
  | [], _, x, hx => by cases hx
  | y :: l, hp, x, hx => by
    have hl : present F l = true := by
      cases y <;> simp [present] at hp <;> first | exact hp.2 | exact hp
    rcases List.mem_cons.1 hx with rfl | hm
    · cases x with
      | tmp t =>
        simp [present] at hp
        simp only [Fr.ev, S.get hp.1]
      | const v => rfl
      | global g => rfl
      | func f => rfl
    · exact ev_all S hl x hm
theorem vals_sub {l : Array Operand} (H : ∀ x, x ∈ l.toList → F'.ev x = F.ev x) : vals F' l = vals F l := by
  unfold vals
  exact List.map_congr_left H
theorem parts_sub {l : Array (Nat × Operand)} (H : ∀ p, p ∈ l.toList → F'.ev p.2 = F.ev p.2) : l.toList.map (fun p => (p.1, F'.ev p.2)) = l.toList.map (fun p => (p.1, F.ev p.2)) :=
  List.map_congr_left fun p hp => by rw [H p hp]
theorem optmap_sub {x : Option Operand} (H : ∀ y, x = some y → F'.ev y = F.ev y) : x.map F'.ev = x.map F.ev := by
  cases x with
  | none => rfl
  | some y => simp [H y rfl]

theorem opV_sub {o : Op} (H : ∀ x, x ∈ o.operands.toList → F'.ev x = F.ev x) : opV P F' h o = opV P F h o := by
  cases o with
  | move x => simp only [opV, opQ, H x (by simp [Op.operands])]
  | assign x => simp only [opV, opQ, H x (by simp [Op.operands])]
  | pick c a b => simp only [opV, opQ, opA, H c (by simp [Op.operands]), H a (by simp [Op.operands]), H b (by simp [Op.operands])]
  | alloc t => rfl
  | box t x => simp only [opV, opQ, opA, H x (by simp [Op.operands])]
  | build t ps => simp only [opV, opQ, opA, parts_sub (F := F) (F' := F') (l := ps) fun p hp => H p.2 (by simp only [Op.operands]; simpa using ⟨p.1, by simpa using hp⟩)]
  | buildSlice t n ps => simp only [opV, opQ, opA, parts_sub (F := F) (F' := F') (l := ps) fun p hp => H p.2 (by simp only [Op.operands]; simpa using ⟨p.1, by simpa using hp⟩)]
  | insert t m k v => simp only [opV, opQ, opA, H m (by simp [Op.operands]), H k (by simp [Op.operands]), H v (by simp [Op.operands])]
  | load t x => simp only [opV, opQ, opA, H x (by simp [Op.operands])]
  | store t a x => simp only [opV, opQ, opA, H a (by simp [Op.operands]), H x (by simp [Op.operands])]
  | nilCheck x => simp only [opV, opQ, opA, H x (by simp [Op.operands])]
  | binOp op t x y ty => simp only [opV, opQ, opA, H x (by simp [Op.operands]), H y (by simp [Op.operands])]
  | unOp op t x => simp only [opV, opQ, opA, H x (by simp [Op.operands])]
  | convert s d x => simp only [opV, opQ, opA, H x (by simp [Op.operands])]
  | makeInterface t x => simp only [opV, opQ, opA, H x (by simp [Op.operands])]
  | makeFunc fn a b =>
    simp only [opV, opQ]
    rw [vals_sub (l := a) fun x hx => H x (by simp only [Op.operands]; simp at hx ⊢; exact .inl hx), vals_sub (l := b) fun x hx => H x (by simp only [Op.operands]; simp at hx ⊢; exact .inr hx)]
  | makeMap t r =>
    cases r with
    | none => rfl
    | some x => simp only [opV, opQ, opA, H x (by simp [Op.operands])]
  | makeSlice t a b => simp only [opV, opQ, opA, H a (by simp [Op.operands]), H b (by simp [Op.operands])]
  | slice t x lo hi mx =>
    have h1 := H x (by simp [Op.operands])
    have h2 := optmap_sub (F := F) (F' := F') (x := lo) fun y hy => H y (by subst hy; simp [Op.operands])
    have h3 := optmap_sub (F := F) (F' := F') (x := hi) fun y hy => H y (by subst hy; simp [Op.operands])
    cases mx with
    | none => simp only [opV, opQ, opA, h1, h2, h3]
    | some m => simp only [opV, opQ, opA, h1, h2, h3, H m (by simp [Op.operands])]
  | fieldAddr t x f => simp only [opV, opQ, opA, H x (by simp [Op.operands])]
  | field t x f => simp only [opV, opQ, opA, H x (by simp [Op.operands])]
  | indexAddr t x i => simp only [opV, opQ, opA, H x (by simp [Op.operands]), H i (by simp [Op.operands])]
  | index t x i => simp only [opV, opQ, opA, H x (by simp [Op.operands]), H i (by simp [Op.operands])]
  | lookup t x i ok => simp only [opV, opQ, opA, H x (by simp [Op.operands]), H i (by simp [Op.operands])]
  | mapUpdate t m k v => simp only [opV, opQ, opA, H m (by simp [Op.operands]), H k (by simp [Op.operands]), H v (by simp [Op.operands])]
  | extract x i => simp only [opV, opQ, opA, H x (by simp [Op.operands])]
  | call c =>
    obtain ⟨cal, args, ats⟩ := c
    cases cal with
    | builtin b =>
      simp only [opV, opQ, opA]
      rw [vals_sub (l := args) fun x hx => H x (by simp [Op.operands, Call.operands]; simpa using hx)]
    | value f => rfl
    | invoke r m => rfl
  | _ => rfl

theorem target_sub {f : Operand} {args : Array Operand} {ats : Array TypeId} (H : ∀ x, x ∈ (Op.call { callee := .value f, args, argTypes := ats }).operands.toList → F'.ev x = F.ev x) :
    target F' { callee := .value f, args, argTypes := ats } = target F { callee := .value f, args, argTypes := ats } := by
  unfold target
  simp only
  rw [H f (by simp [Op.operands, Call.operands]), vals_sub (l := args) fun x hx => H x (by simp [Op.operands, Call.operands]; exact .inr (by simpa using hx))]

theorem put_sub (S : Sub F F') {d : Option Tmp} {v : Value} {F1 : Fr} (hp : F.put d v = some F1) : ∃ F1', F'.put d v = some F1' ∧ Sub F1 F1' := by
  unfold Fr.put at hp ⊢
  cases d with
  | none => simp only at hp ⊢; cases hp; exact ⟨F', rfl, S⟩
  | some d =>
    simp only at hp ⊢
    rw [← S.n]
    split at hp
    · rename_i hb
      cases hp
      refine ⟨_, rfl, rfl, fun t w hw => ?_⟩
      simp only at hw ⊢
      rw [T.get?_set] at hw ⊢
      split
      · rename_i e; rw [if_pos e] at hw; exact hw
      · rename_i e; rw [if_neg e] at hw; exact S.t t w hw
    · cases hp
end Go.Abs
end

section
/- Walks, fifth part: regions and code. -/
namespace Go.Abs

section
variable (P : Program)

/-- The call of f comes to something of which Q holds. -/
def EvQ (f : FuncId) (args : List Value) (h : AW) (Q : Value → AW → Prop) : Prop := ∃ v h', Evals P f args h v h' ∧ Q v h'
theorem EvQ.mono {P : Program} {f : FuncId} {args : List Value} {h : AW} {Q Q' : Value → AW → Prop} (H : EvQ P f args h Q) (hq : ∀ v h', Q v h' → Q' v h') : EvQ P f args h Q' := by
  obtain ⟨v, h', e, q⟩ := H
  exact ⟨v, h', e, hq v h' q⟩

def castO (t : TypeId) (v : Value) (K : Value → Prop) : Prop :=
  match P.underlying t with
  | some (.tuple es) => match es.toList with
    | [] => K v
    | ts => vTup v fun l => castR.go P ts l fun l => K (.tuple ⟨l⟩)
  | some .invalid => K v
  | some _ => castT P t v K
  | none => K v

def kOp (o : Op) (t : TypeId) (F : Fr) (h : AW) (K : Value → AW → Prop) : Prop :=
  match o with
  | .call { callee := .value f, args, argTypes := _ } => vFun (F.ev f) fun g first captured => EvQ P g (first ++ (vals F args ++ captured)) h fun v h => castO P t v fun v => K v h
  | o => kA P o F h K

def kPut (F : Fr) (d : Option Tmp) (v : Value) (K : Fr → Prop) : Prop := match F.put d v with | some F => K F | none => False
def setB (F : Fr) (t : Nat) (b : Bool) : Fr := ⟨F.n, F.t.set t (.bool b)⟩

def kGuard (ops : List Oper) (F : Fr) (g : Option (Nat × Bool)) (yes no : Fr → Prop) : Prop :=
  match g with
  | none => yes F
  | some (j, want) => match ops[j]? with
    | some oj => match oj.dst with
      | some d => match F.t.get? d with
        | some v => (match v with
          | .tuple _ => no F
          | v => vBool v fun b => bC b (match want with | true => yes (setB F d true) | false => no (setB F d true)) (match want with | false => yes (setB F d false) | true => no (setB F d false)))
        | none => False
      | none => False
    | none => False

def kOps (ops : List Oper) : List Oper → Fr → AW → (Fr → AW → Prop) → Prop
  | [], F, h, K => K F h
  | o :: l, F, h, K => kGuard ops F o.guard
      (fun F => match present F o.op.operands.toList with
        | true => kOp P o.op o.type F h fun v h => kPut F o.dst v fun F => kOps ops l F h K
        | false => False)
      (fun F => kPut F o.dst undef fun F => kOps ops l F h K)

/-! Stacks: what stands behind a piece of code. -/
inductive Item where
  | seq (c : Code)
  | block (id : Nat)
  | loop (b : Code)

def finV (fn : Func) (F : Fr) (h : AW) : Option Value :=
  match resultL P F h fn.results.toList with
  | some [v] => some v
  | some vs => some (.tuple ⟨vs⟩)
  | none => none

def RestS (fn : Func) (Q : Value → AW → Prop) : List Item → Ex → Fr → AW → Prop
  | [], e, F, h => (∀ j, e ≠ .exit j) ∧ ∃ v, finV P fn F h = some v ∧ Q v h
  | .seq c :: st, e, F, h => match e with
    | .normal => ∃ e F' h', Runs P c F h e F' h' ∧ RestS fn Q st e F' h'
    | e => RestS fn Q st e F h
  | .block id :: st, e, F, h => RestS fn Q st (outOf id e) F h
  | .loop b :: st, e, F, h => match e with
    | .normal => ∃ e F' h', Runs P (.loop b) F h e F' h' ∧ RestS fn Q st e F' h'
    | e => RestS fn Q st e F h
def RestC (fn : Func) (Q : Value → AW → Prop) (c : Code) (st : List Item) (F : Fr) (h : AW) : Prop :=
  ∃ e F' h', Runs P c F h e F' h' ∧ RestS P fn Q st e F' h'

/-- From a place on, whatever else the frame holds. -/
def U (fn : Func) (c : Code) (st : List Item) (L : List Nat) (vs : List Value) (h : AW) (Q : Value → AW → Prop) : Prop :=
  ∀ F : Fr, F.n = fn.ntmps → (∀ (j t : Nat), L[j]? = some t → F.t.get? t = vs[j]?) → RestC P fn Q c st F h

def getAll (F : Fr) : List Nat → Option (List Value)
  | [] => some []
  | t :: l => match F.t.get? t, getAll F l with | some v, some r => some (v :: r) | _, _ => none

def kRes (F : Fr) (h : AW) (l : List ResultVar) (K : List Value → Prop) : Prop :=
  match l with
  | [] => K []
  | .tmp t :: l => match F.t.get? t with
    | some v => kRes F h l fun r => K (v :: r)
    | none => False
  | .cell a t :: l => match F.t.get? a with
    | some p => kLoad P h t p fun v => kRes F h l fun r => K (v :: r)
    | none => False
def kRet (fn : Func) (Q : Value → AW → Prop) (F : Fr) (h : AW) : Prop :=
  kRes P F h fn.results.toList fun vs => match vs with | [v] => Q v h | vs => Q (.tuple ⟨vs⟩) h

/-- Drawn regions: what a quiet operation says must not hang on the place at which it is drawn. -/
def reflV : Value → Bool
  | .agg cs => go cs.toList
  | v => base v
  where
  base : Value → Bool
    | .bool _ | .int _ _ | .string _ | .pointer _ | .slice _ _ _ | .map _ | .nilFunc | .nilIface => true
    | _ => false
  go : List Value → Bool
    | [] => true
    | v :: l => base v && go l
/-- What may stand in an interface that is read twice. -/
def ifcB (v : Value) : Bool := reflV.base v
def chkOk : Op → Bool
  | .load .. | .lookup .. | .slice _ _ _ _ none => true
  | .call { callee := .builtin b, args := _, argTypes := _ } => match b with | .len | .cap | .min | .max => true | _ => false
  | _ => false
def kChk (o : Op) (F : Fr) (h : AW) (v : Value) (K : Prop) : Prop :=
  match v with
  | .iface t x => (match chkOk o with
    | true => ifcB x = true ∧ kA P o F h fun v' _ => v' = .iface t x ∧ K
    | false => False)
  | v => match chkOk o && reflV v with
    | true => kA P o F h fun v' _ => v' = v ∧ K
    | false => False
def kFrom (M : List Nat) (j : Nat) (chk : AW → Prop → Prop) (own : Nat) : Nat → AW → List (Nat × AW) → Prop → Prop
  | cur, h, [], K => match Nat.beq cur own with | true => K | false => chk h K
  | cur, h, (i, h') :: l, K => match Nat.beq cur own || !noneBef M j ((i, h') :: l) with
    | true => (match bef M j i with | true => K | false => kFrom M j chk own (cur + 1) h' l K)
    | false => chk h (match bef M j i with | true => K | false => kFrom M j chk own (cur + 1) h' l K)
def kSt (M : List Nat) (h : AW) (As : List (Nat × AW)) (own j : Nat) (s : St) (K : Prop) : Prop :=
  match s.act, s.want with
  | none, true => match looks s.o.op with
    | true => kFrom M j (fun h K => kChk P s.o.op s.F h s.v K) own 0 h As K
    | false => K
  | _, _ => K
def kSts (M : List Nat) (h : AW) (As : List (Nat × AW)) : Nat → Nat → List St → Prop → Prop
  | _, _, [], K => K
  | own, j, s :: l, K => kSt P M h As own j s (kSts M h As (match s.act with | some _ => own + 1 | none => own) (j + 1) l K)

/-- Is it an operation of the kind that turns the heap? -/
def actish2 : Op → Bool
  | .alloc _ | .box .. | .buildSlice .. | .store .. | .makeMap .. | .makeSlice .. | .slice _ _ _ _ (some _) | .mapUpdate .. | .insert .. => true
  | .call { callee := .builtin b, args := _, argTypes := _ } => match b with | .len | .cap | .min | .max => false | _ => true
  | .call _ => true
  | _ => false
def quietish : Op → Bool
  | .convert .. => false
  | o => !actish2 o

def kTr (ops : List Oper) : List Oper → Fr → AW → List St → (List St → Fr → AW → Prop) → Prop
  | [], F, h, tr, K => K tr F h
  | o :: l, F, h, tr, K => kGuard ops F o.guard
      (fun F => match present F o.op.operands.toList with
        | true => match actish2 o.op with
          | true => kOp P o.op o.type F h fun v h' => kPut F o.dst v fun F' => kTr ops l F' h' (tr ++ [⟨o, F, h, true, some h', v⟩]) K
          | false => match quietish o.op with
            | true => kOp P o.op o.type F h fun v h' => kPut F o.dst v fun F' => kTr ops l F' h (tr ++ [⟨o, F, h, true, none, v⟩]) K
            | false => False
        | false => False)
      (fun F => kPut F o.dst undef fun F' => kTr ops l F' h (tr ++ [⟨o, F, h, false, none, undef⟩]) K)
def kDrawn (ops : List Oper) (F : Fr) (h : AW) (K : Fr → AW → Prop) : Prop :=
  match staticOk ops with
  | true => kTr P ops ops F h [] fun tr F' h' => match orderedOk ops (masks ops []) (acts 0 tr) with
    | true => kSts P (masks ops []) h (acts 0 tr) 0 0 tr (K F' h')
    | false => False
  | false => False
def kRegion (ops : List Oper) (draw : Bool) (F : Fr) (h : AW) (K : Fr → AW → Prop) : Prop :=
  match draw with
  | false => kOps P ops ops F h K
  | true => kDrawn P ops F h K

variable (fn : Func) (ann : Nat → Option (List Nat)) (Q : Value → AW → Prop)

def kPop (go : Code → List Item → Fr → AW → Prop) : List Item → Fr → AW → Prop
  | [], F, h => kRet P fn Q F h
  | .seq c :: st, F, h => go c st F h
  | .block _ :: st, F, h => kPop go st F h
  | .loop b :: st, F, h => go b (.loop b :: st) F h
def kExit (go : Code → List Item → Fr → AW → Prop) (id : Nat) : List Item → Fr → AW → Prop
  | [], _, _ => False
  | .block j :: st, F, h => match Nat.beq id j with
    | true => kPop P fn Q go st F h
    | false => kExit go id st F h
  | _ :: st, F, h => kExit go id st F h

def kCond (F : Fr) (x : Operand) (yes no : Fr → Prop) : Prop :=
  match x with
  | .tmp t => match F.t.get? t with
    | some v => vBool v fun b => bC b (yes (setB F t true)) (no (setB F t false))
    | none => False
  | .const v => vBool v fun b => bC b (yes F) (no F)
  | _ => False

def kRun : Nat → Code → List Item → Fr → AW → Prop
  | 0, _, _, _, _ => False
  | n + 1, c, st, F, h =>
    match c with
    | .skip => kPop P fn Q (kRun n) st F h
    | .label _ => kPop P fn Q (kRun n) st F h
    | .region id ops draw => match ann id with
      | some L => match getAll F L, Nat.beq F.n fn.ntmps with
        | some vs, true => U P fn (.region id ops draw) st L vs h Q
        | _, _ => False
      | none => kRegion P ops.toList draw F h fun F h => kPop P fn Q (kRun n) st F h
    | .seq a b => kRun n a (.seq b :: st) F h
    | .cond x a b => kCond F x (fun F => kRun n a st F h) (fun F => kRun n b st F h)
    | .block id b => kRun n b (.block id :: st) F h
    | .loop b => kRun n b (.loop b :: st) F h
    | .scope b => kRun n b st F h
    | .exit id => kExit P fn Q (kRun n) id st F h
    | .ret => kRet P fn Q F h
    | _ => False

def frOf (n : Nat) : List Nat → List Value → T Value → Fr
  | t :: L, v :: vs, T => frOf n L vs (T.set t v)
  | _, _, T => ⟨n, T⟩

/-- The place of a region in a function's code. -/
def locate (id : Nat) : Code → List Item → Option (Code × List Item)
  | .region i ops d, st => match Nat.beq i id with | true => some (.region i ops d, st) | false => none
  | .seq a b, st => match locate id a (.seq b :: st) with
    | some r => some r
    | none => locate id b st
  | .cond _ a b, st => match locate id a st with
    | some r => some r
    | none => locate id b st
  | .block j b, st => locate id b (.block j :: st)
  | .loop b, st => locate id b (.loop b :: st)
  | .scope b, st => locate id b st
  | _, _ => none

/-- From a region of a function on. -/
def unitAt (f id : Nat) (L : List Nat) (vs : List Value) (h : AW) (Q : Value → AW → Prop) : Prop :=
  match bodyOf P f with
  | some (fn, c) => match locate id c [] with
    | some (c, st) => U P fn c st L vs h Q
    | none => False
  | none => False
def kUnit (f id n : Nat) (ann : Nat → Option (List Nat)) (L : List Nat) (vs : List Value) (h : AW) (Q : Value → AW → Prop) : Prop :=
  match bodyOf P f with
  | some (fn, c) => match locate id c [] with
    | some (.region _ ops d, st) => match Nat.beq L.length vs.length with
      | true => kRegion P ops.toList d (frOf fn.ntmps L vs .nil) h fun F h => kPop P fn Q (kRun P fn ann Q n) st F h
      | false => False
    | _ => False
  | none => False
def kFn (f n : Nat) (ann : Nat → Option (List Nat)) (args : List Value) (h : AW) (Q : Value → AW → Prop) : Prop :=
  match bodyOf P f with
  | some (fn, c) => match Nat.ble args.length fn.ntmps with
    | true => kRun P fn ann Q n c [] ⟨fn.ntmps, T.ofList args⟩ h
    | false => False
  | none => False
end
end Go.Abs
end
