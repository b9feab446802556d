/- copy, clear, append: held against the model's. -/
import Derived.Test.YtgdkekdedgkglaaBkAct2
open Go.RowKit
namespace Go.Abs
variable {B0 : Nat} {w0 : World} {φ : Map} {h h' : AW} {w : World} {P : Program}

theorem stores_ok (H : HRel B0 w0 φ h w) {i off len cap : Nat} {x' : Value} {l l' : List Value} (hx : VRel φ (.slice (some ⟨i, off, none⟩) len cap) x') (hw : h.wrL i off l = some h') (hl : LRel φ l l') (h0 : len = 0 → l = []) :
    ∃ b off' cap', x' = .slice (some ⟨b, off', none⟩) len cap' ∧ ∃ w', (storeCells ⟨b, off', none⟩ l' 0).run P w = .ok () w' ∧ HRel B0 w0 φ h' w' := by
  obtain ⟨_, b, σ, κ, off', hp, hσ, ho, rfl⟩ := hx.slice_inv
  refine ⟨b, off', cap + κ, rfl, ?_⟩
  refine HRel.wrL (P := P) (h := h) (fun _ => rfl) hp (k := 0) H hw hl off' (fun hne => ?_)
  rcases ho with rfl | ⟨hz, _⟩
  · exact ⟨by omega, hσ⟩
  · exact absurd (h0 hz) hne

theorem clear_ok (H : HRel B0 w0 φ h w) {ts : Array TypeId} {ty : TypeId} {args args' : List Value} {v : Value} (ha : LRel φ args args') (hr : clearB P h ts args = some (v, h')) : Out B0 w0 φ (Builtin.clear_ ts ty ⟨args'⟩) P w v h' := by
  unfold clearB at hr
  split at hr
  · rename_i t x hts
    obtain ⟨x', t', rfl, hx, ht'⟩ := ha.cons_left
    cases ht'.nil_left
    have hts0 : ts[0]? = some t := by rw [← Array.getElem?_toList, hts]; rfl
    split at hr
    · rename_i ti ht
      obtain ⟨it, hit, hut, -⟩ := tiOf_ok ht
      split at hr
      · simp only [Option.some.injEq, Prod.mk.injEq] at hr
        obtain ⟨rfl, rfl⟩ := hr
        cases hx.mapN_inv
        exact ⟨φ, .tuple #[], w, by simp [Builtin.clear_, hts0, run_underlying hut], φ.le_refl, VRel.undef, H⟩
      · simp only [Option.some.injEq, Prod.mk.injEq] at hr
        obtain ⟨rfl, rfl⟩ := hr
        cases hx.sliceN_inv
        exact ⟨φ, .tuple #[], w, by simp [Builtin.clear_, hts0, run_underlying hut], φ.le_refl, VRel.undef, H⟩
      · split at hr
        · rename_i es ho
          simp only [Option.some.injEq, Prod.mk.injEq] at hr
          obtain ⟨rfl, rfl⟩ := hr
          obtain ⟨b, σ, κ, hp, rfl⟩ := hx.map_inv
          obtain ⟨ents, clock, hw, hl, hset⟩ := H.setMap ho hp
          exact ⟨φ, .tuple #[], _, by simp [Builtin.clear_, hts0, run_underlying hut, run_getObj' hw, run_setObj' _ hw], φ.le_refl, VRel.undef, hset [] #[] clock L2.nil⟩
        · cases hr
      · rename_i i off n c
        split at hr
        · rename_i elem hd
          rw [hd] at hut
          split at hr
          · rename_i te hte
            obtain ⟨ie, hie, hue, _, hsz, hby, hz⟩ := tiOf_ok hte
            split at hr
            · rename_i z hzz
              obtain ⟨hz1, hz2, hz3⟩ := hz z hzz
              split at hr
              · rename_i h2 hw
                simp only [Option.some.injEq, Prod.mk.injEq] at hr
                obtain ⟨rfl, rfl⟩ := hr
                obtain ⟨b, off', cap', rfl, w', hrun, H'⟩ := stores_ok (P := P) H hx hw (rep_flat hz2 n) (fun h0 => by subst h0; rfl)
                refine ⟨φ, .tuple #[], w', ?_, φ.le_refl, VRel.undef, H'⟩
                cases n with
                | zero =>
                  simp only [rep, storeCells, Sem.run_pure] at hrun
                  cases hrun
                  simp [Builtin.clear_, hts0, run_underlying hut]
                | succ n =>
                  have hzc : (Builtin.zeroCells z.cells (n + 1)).toList = rep z.cells.toList (n + 1) := by
                    unfold Builtin.zeroCells
                    rw [rep_range]
                  simp only [Builtin.clear_, hts0, List.getElem?_toArray, List.getElem?_cons_zero, Sem.run_bind, run_underlying hut, Result.andThen_ok, run_zeroValue' hie hz1, hzc, hrun, Sem.run_pure]
              · cases hr
            · cases hr
          · cases hr
        · cases hr
      · cases hr
    · cases hr
  · cases hr

theorem goInt_rel {n : Nat} : VRel φ (goInt n) (goInt n) := .int _ _

theorem copy_ok (H : HRel B0 w0 φ h w) {ts : Array TypeId} {ty : TypeId} {args args' : List Value} {v : Value} (ha : LRel φ args args') (hr : copyB P h ts args = some (v, h')) : Out B0 w0 φ (Builtin.copy_ ts ty ⟨args'⟩) P w v h' := by
  unfold copyB at hr
  split at hr
  · rename_i td rest base dlen dcap src hts
    obtain ⟨d', a2, rfl, hd, ha2⟩ := ha.cons_left
    obtain ⟨s', a3, rfl, hs, ha3⟩ := ha2.cons_left
    cases ha3.nil_left
    have hts0 : ts[0]? = some td := by rw [← Array.getElem?_toList, hts]; rfl
    split at hr
    · rename_i ti ht
      obtain ⟨it, hit, hut, -⟩ := tiOf_ok ht
      split at hr
      · rename_i elem hdu
        rw [hdu] at hut
        split at hr
        · rename_i te hte
          obtain ⟨ie, hie, hue, _, hsz, -⟩ := tiOf_ok hte
          split at hr
          · rename_i n l hsrc
            -- what is read
            have read : ∃ (m : Nat) (l' : List Value), (Builtin.lenOf s').run P w = .ok m w ∧ Nat.min m dlen = n ∧ (Builtin.firstCells ie.size n s').run P w = .ok ⟨l'⟩ w ∧ LRel φ l l' ∧ (n = 0 → l = []) := by
              split at hsrc
              · rename_i n2 c2
                cases hs.sliceN_inv
                split at hsrc
                · rename_i hb
                  have := beq_true hb; subst this
                  simp only [Option.some.injEq, Prod.mk.injEq] at hsrc
                  obtain ⟨rfl, rfl⟩ := hsrc
                  exact ⟨0, [], rfl, by simp, rfl, L2.nil, fun _ => rfl⟩
                · cases hsrc
              · rename_i i off n2 c2
                obtain ⟨_, b, σ, κ, off', hp, hσ, ho, rfl⟩ := hs.slice_inv
                split at hsrc
                · rename_i l2 hl2
                  simp only [Option.some.injEq, Prod.mk.injEq] at hsrc
                  obtain ⟨rfl, rfl⟩ := hsrc
                  obtain ⟨l', hlr, hlen, hrun⟩ := loadCells_ok (P := P) H hp hl2
                  refine ⟨n2, l', rfl, rfl, ?_, hlr, fun h0 => ?_⟩
                  · simp only [Builtin.firstCells]
                    rcases ho with rfl | ⟨rfl, _⟩
                    · rw [← hsz]; exact hrun
                    · have h0 : Nat.min 0 dlen = 0 := by simp
                      rw [h0] at hlen ⊢
                      have : l' = [] := List.eq_nil_of_length_eq_zero (by simpa using hlen)
                      subst this
                      simp [loadCells, loadCellsFrom]
                  · have : l'.length = 0 := by rw [hlen, h0]; simp
                    exact List.eq_nil_of_length_eq_zero (by rw [hlr.1]; exact this)
                · cases hsrc
              · rename_i b
                cases hs.string_inv
                simp only [Option.some.injEq, Prod.mk.injEq] at hsrc
                obtain ⟨rfl, rfl⟩ := hsrc
                refine ⟨b.size, _, rfl, rfl, ?_, ofBytes_rel _, fun h0 => ?_⟩
                · simp only [Builtin.firstCells, Sem.run_pure]
                  congr 1
                  apply Array.ext'
                  simp [ofBytes, ByteArray.data_extract]
                · rw [h0]; rfl
              · cases hsrc
            obtain ⟨m, l', hlen, hmin, hfirst, hll, hz⟩ := read
            split at hr
            · simp only [Option.some.injEq, Prod.mk.injEq] at hr
              obtain ⟨rfl, rfl⟩ := hr
              cases hd.sliceN_inv
              refine ⟨φ, _, w, ?_, φ.le_refl, goInt_rel, H⟩
              simp only [Builtin.copy_, hts0, List.getElem?_toArray, List.getElem?_cons_zero, List.getElem?_cons_succ, Sem.run_bind, run_underlying hut, Result.andThen_ok, hlen, hmin, run_sizeOf' hie, hfirst, Sem.run_pure]
            · rename_i i off
              split at hr
              · rename_i h2 hw
                simp only [Option.some.injEq, Prod.mk.injEq] at hr
                obtain ⟨rfl, rfl⟩ := hr
                obtain ⟨b, off', cap', rfl, w', hrun, H'⟩ := stores_ok (P := P) H hd hw hll (fun h0 => hz (by rw [← hmin, h0]; simp))
                refine ⟨φ, _, w', ?_, φ.le_refl, goInt_rel, H'⟩
                simp only [Builtin.copy_, hts0, List.getElem?_toArray, List.getElem?_cons_zero, List.getElem?_cons_succ, Sem.run_bind, run_underlying hut, Result.andThen_ok, hlen, hmin, run_sizeOf' hie, hfirst, Sem.run_pure]
                rw [hrun]
                simp
              · cases hr
            · cases hr
          · cases hr
        · cases hr
      · cases hr
    · cases hr
  · cases hr

def appendTail (elem : TypeId) (size sLen sCap n : Nat) (s : Value) (base : Option Addr) (x : Value) (zeros : Bool) (appended : Sem (Array Value)) : Sem Value := do
  let need := sLen + n
  if need ≤ sCap then
    let new ← appended
    if let some a := base then storeCells (a.add (sLen * size)) new.toList
    pure (.slice base need sCap)
  else
    if (need : Int) > IntKind.i64.max ∧ (zeros ∨ (← typeInfo elem).bytes = 0) then runtimePanic (.error "growslice: len out of range")
    if Builtin.nextslicecap need sCap * (← typeInfo elem).bytes > 2 ^ 48 then (if zeros then runtimePanic (.error "growslice: len out of range") else do
      if !(← Builtin.mayShare size sLen n base x) then mark .noRoom
      unsupported (.resourceLimit "append: a slice or a string whose bytes no memory bears"))
    let newCap ← choose (.appendCap need sCap elem)
    askRoom (newCap * (← typeInfo elem).bytes)
    let old ← Builtin.firstCells size sLen s
    let new ← appended
    let rest := Builtin.zeroCells (← zeroValue elem).cells (newCap - need)
    pure (.slice (some (← newRow elem (old ++ new ++ rest))) need newCap)

/-- What an append does, whatever it appends. -/
theorem appendTail_ok (H : HRel B0 w0 φ h w) {elem : TypeId} {s s' x' v : Value} {n : Nat} {new new' : List Value} {zeros : Bool} {appended : Sem (Array Value)} {base' : Option Addr} {sLen sCap' : Nat}
    (hs : VRel φ s s') (hs' : s' = .slice base' sLen sCap') {ie : TypeInfo} (hie : P.info? elem = some ie)
    (happ : appended.run P w = .ok ⟨new'⟩ w ∧ appended.run P w.drew = .ok ⟨new'⟩ w.drew) (hl : LRel φ new new') (hr : appendV P h elem s n new = some (v, h')) :
    Out B0 w0 φ (appendTail elem ie.size sLen sCap' n s' base' x' zeros appended) P w v h' := by
  unfold appendV at hr
  split at hr
  · rename_i te base len cap hte
    obtain ⟨ie2, hie2, hue, _, hsz, hby, hz⟩ := tiOf_ok hte
    rw [hie] at hie2; cases hie2
    split at hr
    · cases hr
    rename_i hnl
    have hnl := beq_true hnl
    split at hr
    · rename_i hble
      have hble := ble_true hble
      split at hr
      · rename_i i off
        split at hr
        · rename_i h2 hw
          simp only [Option.some.injEq, Prod.mk.injEq] at hr
          obtain ⟨rfl, rfl⟩ := hr
          obtain ⟨_, b, σ, κ, off', hp, hσ, ho, he⟩ := hs.slice_inv
          rw [he] at hs'
          simp only [Value.slice.injEq] at hs'
          obtain ⟨e1, e2, e3⟩ := hs'
          subst e1; subst e2; subst e3
          have ho' : new ≠ [] → off' = off - σ := by
            intro hne
            rcases ho with h | ⟨_, h2⟩
            · exact h
            · exfalso; apply hne
              have hn0 : n = 0 := by omega
              rw [hn0] at hnl
              exact List.eq_nil_of_length_eq_zero (by simpa using hnl)
          obtain ⟨w', hrun, H'⟩ := HRel.wrL (P := P) (h := h) (fun _ => rfl) hp (k := 0) H hw hl (off' + len * te.size) (fun hne => ⟨by rw [ho' hne]; omega, by omega⟩)
          refine ⟨φ, .slice (some ⟨b, off', none⟩) (len + n) (cap + κ), w', ?_, φ.le_refl, ?_, H'⟩
          · subst he
            simp only [appendTail]
            rw [if_pos (by omega)]
            simp only [Sem.run_bind, happ.1, Result.andThen_ok, Addr.add_lit, ← hsz]
            rw [hrun]
            simp
          · refine VRel.slice hp hσ ?_
            rcases ho with h | ⟨h1, h2⟩
            · exact .inl h
            · exact .inr ⟨by omega, h2⟩
        · cases hr
      · cases hr
      · simp only [Option.some.injEq, Prod.mk.injEq] at hr
        obtain ⟨rfl, rfl⟩ := hr
        have he := hs.sliceN_inv
        rw [he] at hs'
        simp only [Value.slice.injEq] at hs'
        obtain ⟨e1, e2, e3⟩ := hs'
        subst e1; subst e2; subst e3
        refine ⟨φ, .slice none (len + n) cap, w, ?_, φ.le_refl, .sliceN _ _, H⟩
        simp only [appendTail]
        rw [if_pos (by omega)]
        simp only [Sem.run_bind, happ.1, Result.andThen_ok]
        simp
    · rename_i hnb
      have hgt : cap < len + n := by
        rcases Nat.lt_or_ge cap (len + n) with h | h
        · exact h
        · rw [Nat.ble_eq_true_of_le h] at hnb; cases hnb
      split at hr
      · cases hr
      rename_i hroom
      simp only [Bool.and_eq_true] at hroom
      obtain ⟨⟨⟨hroom1, hroom2⟩, hone⟩, hzs⟩ := hroom
      have hroom1 : (len + n) * te.bytes ≤ 70368744177664 := ble_true hroom1
      have hroom2 := ble_true hroom2
      obtain ⟨z, hzz⟩ := Option.isSome_iff_exists.1 hzs
      obtain ⟨hz1, hz2, hz3⟩ := hz z hzz
      -- a growth: whatever the new capacity
      have growRun : ∀ (old' : List Value), sLen = len → sCap' < len + n → (Builtin.firstCells ie.size len s').run P w.drew = .ok ⟨old'⟩ w.drew →
          (appendTail elem ie.size sLen sCap' n s' base' x' zeros appended).run P w =
            .ok (.slice (some ⟨w.heap.size, 0, none⟩) (len + n) (grownCap w (len + n) sCap' elem)) (w.drew.alloc (.cells ⟨old' ++ new' ++ rep z.cells.toList (grownCap w (len + n) sCap' elem - (len + n))⟩ elem)) := by
        intro old' e1 e2 hold
        subst e1
        have hfit : ¬ (Builtin.nextslicecap (sLen + n) sCap' * ie.bytes > 2 ^ 48) := by
          have := growslice_fits (bytes := ie.bytes) e2 (by rw [← hby]; omega)
          rw [show (2 : Nat) ^ 48 = 281474976710656 from by decide]; omega
        have hmax : ¬ (((sLen + n : Nat) : Int) > IntKind.i64.max ∧ (zeros = true ∨ ie.bytes = 0)) := by
          rw [show IntKind.i64.max = 9223372036854775807 from by decide]; omega
        unfold appendTail
        simp only []
        rw [if_neg (by omega)]
        simp only [Sem.run_bind, run_typeInfo' hie, Result.andThen_ok]
        rw [if_neg hmax]
        simp only [Sem.run_bind, run_typeInfo' hie, Result.andThen_ok]
        rw [if_neg hfit]
        simp only [Sem.run_bind, run_typeInfo' hie, Sem.run_pure, run_choose, Question.forced, Bool.false_eq_true, if_false, Result.andThen_ok, run_askRoom]
        rw [show ({ w with drawn := w.drawn + 1 } : World) = w.drew from rfl, hold]
        simp only [Result.andThen_ok, happ.2, run_zeroValue' hie hz1, newRow, run_newObj, Sem.run_bind, Sem.run_pure]
        have hcells : (⟨old'⟩ ++ ⟨new'⟩ ++ Builtin.zeroCells z.cells ((Question.appendCap (sLen + n) sCap' elem).cut (w.tape w.drawn (Question.appendCap (sLen + n) sCap' elem)) - (sLen + n)) : Array Value) =
            ⟨old' ++ new' ++ rep z.cells.toList (grownCap w (sLen + n) sCap' elem - (sLen + n))⟩ := by
          unfold Builtin.zeroCells
          rw [rep_range]
          apply Array.ext'
          simp [grownCap]
        rw [hcells]
        rfl
      have hcapge : ∀ c, len + n ≤ grownCap w (len + n) c elem := fun c => appendCap_ge
      split at hr
      · split at hr
        · rename_i j h2 hb0 hn
          simp only [Option.some.injEq, Prod.mk.injEq] at hr
          obtain ⟨rfl, rfl⟩ := hr
          have := beq_true hb0; subst this
          have he := hs.sliceN_inv
          rw [he] at hs'
          simp only [Value.slice.injEq] at hs'
          obtain ⟨e1, e2, e3⟩ := hs'
          subst e1; subst e2; subst e3
          have hrun := growRun [] rfl hgt (by rw [he]; simp [Builtin.firstCells])
          obtain ⟨ψ, h1, h2', h3⟩ := H.drew.newRow hn hl (rest := rep z.cells.toList (grownCap w (0 + n) cap elem - (0 + n))) elem (grownCap w (0 + n) cap elem - (0 + n)) (by rw [rep_length]; simp [hz3])
          refine ⟨ψ, _, _, hrun, h1, ?_, h3⟩
          have := VRel.slice (φ := ψ) (len := n) (cap := n) h2' (Nat.zero_le 0) (.inl (by rfl))
          have hg := hcapge cap
          simp only [Nat.zero_add] at hg this ⊢
          rw [show n + (grownCap w n cap elem - n) = grownCap w n cap elem from by omega] at this
          exact this
        · cases hr
      · rename_i i off
        obtain ⟨_, b, σ, κ, off', hp, hσ, ho, he⟩ := hs.slice_inv
        have hs2 := hs'
        rw [he] at hs2
        simp only [Value.slice.injEq] at hs2
        obtain ⟨e1, e2, e3⟩ := hs2
        subst e1; subst e2; subst e3
        split at hr
        · rename_i cs m ro hob
          obtain ⟨b2, σ2, κ2, hp2, hR⟩ := H.obj i _ hob
          rw [hp] at hp2; cases hp2
          obtain ⟨rfl, rfl, -⟩ := hR
          split at hr
          · rename_i old hold
            split at hr
            · rename_i j h2 hn
              simp only [Option.some.injEq, Prod.mk.injEq] at hr
              obtain ⟨rfl, rfl⟩ := hr
              obtain ⟨old', hor, holen, horun⟩ := loadCells_ok (P := P) H.drew hp hold
              have hfirst : (Builtin.firstCells ie.size len s').run P w.drew = .ok ⟨old'⟩ w.drew := by
                rw [he]
                simp only [Builtin.firstCells]
                rcases ho with h | ⟨h1, _⟩
                · rw [h, ← hsz]; exact horun
                · subst h1
                  have : old' = [] := List.eq_nil_of_length_eq_zero (by simpa using holen)
                  subst this
                  simp [loadCells, loadCellsFrom]
              have hrun := growRun old' rfl (by omega) hfirst
              obtain ⟨ψ, h1, h2', h3⟩ := H.drew.newRow hn (hor.append hl) (rest := rep z.cells.toList (grownCap w (len + n) (cap + 0) elem - (len + n))) elem (grownCap w (len + n) (cap + 0) elem - (len + n)) (by rw [rep_length]; simp [hz3])
              refine ⟨ψ, _, _, hrun, h1, ?_, h3⟩
              have := VRel.slice (φ := ψ) (len := len + n) (cap := len + n) h2' (Nat.zero_le 0) (.inl (by rfl))
              have hg := hcapge (cap + 0)
              rw [show len + n + (grownCap w (len + n) (cap + 0) elem - (len + n)) = grownCap w (len + n) (cap + 0) elem from by omega] at this
              exact this
            · cases hr
          · cases hr
        · rename_i f g lo hi sz cs hob
          split at hr
          · rename_i fm hfm
            split at hr
            · rename_i hc
              simp only [Bool.and_eq_true] at hc
              obtain ⟨⟨⟨⟨⟨c1, c2⟩, c3⟩, c4⟩, c5⟩, c6⟩ := hc
              have c1 := beq_true c1
              have c2 := ble_true c2
              have c3 := beq_true c3
              have c4 := ble_true c4
              have c5 := beq_true c5
              have c6 := ble_true c6
              subst c3
              simp only [Option.some.injEq, Prod.mk.injEq] at hr
              obtain ⟨rfl, rfl⟩ := hr
              obtain ⟨hin, hgrow⟩ := H.drew.grow (P := P) hob hp hfm c1 (off := off) (e := off + len * te.size) c2 (by omega) c4 c6 hl hone rfl
              obtain ⟨hin', -⟩ := H.grow (P := P) hob hp hfm c1 (off := off) (e := off + len * te.size) c2 (by omega) c4 c6 hl hone rfl
              obtain ⟨b3, σ3, κ3, hp3, hR⟩ := H.obj i _ hob
              rw [hp] at hp3; cases hp3
              obtain ⟨q1, q2, q3, q4, q5, q6⟩ := hR fm hfm c1
              by_cases hfit : len + n ≤ cap + κ
              · -- room in the array: written in place
                have hcapsz : cap * te.size + κ * te.size = (cap + κ) * te.size := by rw [Nat.add_mul]
                have hnsz : len * te.size + n * te.size = (len + n) * te.size := by rw [Nat.add_mul]
                have hsub : (cap + κ) * te.size = (len + n) * te.size + (cap + κ - (len + n)) * te.size := by rw [← Nat.add_mul]; congr 1; omega
                obtain ⟨w', ψ, hrun, hle, hpn, H'⟩ := hin' (cap + κ - (len + n)) (by omega)
                have hoff : off' = off - σ := by
                  rcases ho with h | ⟨h1, h2⟩
                  · exact h
                  · omega
                refine ⟨ψ, .slice (some ⟨b, off', none⟩) (len + n) (cap + κ), w', ?_, hle, ?_, H'⟩
                · rw [he]
                  simp only [appendTail]
                  rw [if_pos hfit]
                  simp only [Sem.run_bind, happ.1, Result.andThen_ok, Addr.add_lit, ← hsz]
                  rw [hoff, show off - σ + len * te.size = off + len * te.size - σ from by omega]
                  rw [hrun]
                  simp
                · have := VRel.slice (φ := ψ) (i := h.next) (off := off) (len := len + n) (cap := len + n) hpn hσ (.inl rfl)
                  rw [show len + n + (cap + κ - (len + n)) = cap + κ from by omega] at this
                  rw [hoff]; exact this
              · -- a new array
                have hexists : ∃ old' : List Value, old'.length = len * te.size ∧ ∀ j v', old'[j]? = some v' → w.cell? ⟨b, off - σ + j, none⟩ = some v' := by
                  refine ⟨(List.range (len * te.size)).map fun j => (w.cell? ⟨b, off - σ + j, none⟩).getD undef, by simp, fun j v' hj => ?_⟩
                  rw [List.getElem?_map] at hj
                  cases hrg : (List.range (len * te.size))[j]? with
                  | none => simp [hrg] at hj
                  | some k =>
                    simp only [hrg, Option.map_some, Option.some.injEq] at hj
                    have hlt : j < len * te.size := by have := (List.getElem?_eq_some_iff.1 hrg).1; simpa using this
                    have hk : k = j := by
                      rw [List.getElem?_range hlt] at hrg; exact (Option.some.inj hrg).symm
                    subst hk
                    obtain ⟨u, hu⟩ := q5 (off + k) (by omega) (by have : 0 ≤ κ * te.size := Nat.zero_le _; omega)
                    rw [show off - σ + k = off + k - σ from by omega, hu] at hj ⊢
                    simpa using hj
                obtain ⟨old', holen, hocell⟩ := hexists
                have hfirst : (Builtin.firstCells ie.size len s').run P w.drew = .ok ⟨old'⟩ w.drew := by
                  rw [he]
                  simp only [Builtin.firstCells, ← hsz]
                  rcases ho with h | ⟨h1, _⟩
                  · rw [h, ← holen]
                    exact run_loadCells_list (P := P) w.drew ⟨b, off - σ, none⟩ old' (fun j v' hv => by rw [Addr.add_lit]; exact hocell j v' hv)
                  · subst h1
                    have : old' = [] := List.eq_nil_of_length_eq_zero (by simpa using holen)
                    subst this
                    simp [loadCells, loadCellsFrom]
                have hrun := growRun old' rfl (by omega) hfirst
                obtain ⟨ψ, hle, hpn, H'⟩ := hgrow (grownCap w (len + n) (cap + κ) elem - (len + n)) old' (rep z.cells.toList (grownCap w (len + n) (cap + κ) elem - (len + n))) elem hocell (by rw [holen]; omega) (by rw [rep_length]; simp [hz3])
                refine ⟨ψ, _, _, hrun, hle, ?_, H'⟩
                have := VRel.slice (φ := ψ) (i := h.next) (off := off) (off' := off - off) (len := len + n) (cap := len + n) hpn (Nat.le_refl _) (.inl rfl)
                have hg := hcapge (cap + κ)
                rw [show len + n + (grownCap w (len + n) (cap + κ) elem - (len + n)) = grownCap w (len + n) (cap + κ) elem from by omega, Nat.sub_self] at this
                exact this
            · cases hr
          · cases hr
        · cases hr
      · cases hr
  · cases hr

end Go.Abs
