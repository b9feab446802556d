/- Conversions, building, slicing, looking up, lengths. -/
import Derived.Test.YtgdkekdedgkglaaBkOps2
import Derived.Laws.BytesString
open Go.RowKit
namespace Go.Abs
variable {B0 : Nat} {w0 : World} {φ : Map} {h h' : AW} {w : World} {P : Program}

theorem bytesV_ok : ∀ {l : List Value} {bs : List UInt8}, bytesV l = some bs → ∃ ns : List Int, l = ns.map (Value.int .u8) ∧ bs = ns.map fun n => UInt8.ofNat n.toNat := by
  intro l
  induction l with
  | nil => intro bs hb; simp only [bytesV, Option.some.injEq] at hb; subst hb; exact ⟨[], rfl, rfl⟩
  | cons x l ih =>
    intro bs hb
    unfold bytesV at hb
    split at hb
    · rename_i heq; cases heq
    · rename_i n l2 heq
      simp only [List.cons.injEq] at heq
      obtain ⟨rfl, rfl⟩ := heq
      split at hb
      · rename_i r hr
        simp only [Option.some.injEq] at hb; subst hb
        obtain ⟨ns, rfl, rfl⟩ := ih hr
        exact ⟨n :: ns, rfl, rfl⟩
      · cases hb
    · cases hb

theorem LRel_ints {k : IntKind} : ∀ {ns : List Int} {l' : List Value}, LRel φ (ns.map (Value.int k)) l' → l' = ns.map (Value.int k) := by
  intro ns
  induction ns with
  | nil => intro l' h; exact h.nil_left
  | cons n ns ih =>
    intro l' h
    obtain ⟨x, t, rfl, h1, h2⟩ := L2.cons_left (l := ns.map (Value.int k)) (a := .int k n) h
    cases h1.int_inv
    rw [ih h2]; rfl

theorem foldl_push : ∀ (ns : List Int) (s : ByteArray), (ns.foldl (fun r n => r.push (UInt8.ofNat n.toNat)) s) = ⟨⟨s.data.toList ++ ns.map fun n => UInt8.ofNat n.toNat⟩⟩
  | [], s => by simp
  | n :: ns, s => by
    rw [List.foldl_cons, foldl_push ns]
    simp [ByteArray.push]

theorem convQ_ok (H : HRel B0 w0 φ h w) {src dst : TypeId} {x x' v : Value} (hx : VRel φ x x') (hr : convQ P h src dst x = some v) :
    (convert src dst x').run P w = .ok v w ∧ VRel φ v v := by
  unfold convQ at hr
  split at hr
  · rename_i s d hs hd
    obtain ⟨is, his, hus, -⟩ := tiOf_ok hs
    obtain ⟨id, hid, hud, -⟩ := tiOf_ok hd
    split at hr
    · rename_i hdu
      cases hx.int_inv
      simp only [Option.some.injEq] at hr; subst hr
      rw [hdu] at hud
      refine ⟨?_, .int _ _⟩
      simp [convert, run_underlying hus, run_underlying hud, Conv.intToInt]
    · rename_i hdu
      cases hx.int_inv
      simp only [Option.some.injEq] at hr; subst hr
      rw [hdu] at hud
      refine ⟨?_, .string _⟩
      simp [convert, run_underlying hus, run_underlying hud, Conv.intToString]
    · rename_i hdu
      cases hx.string_inv
      simp only [Option.some.injEq] at hr; subst hr
      rw [hdu] at hud
      refine ⟨?_, .string _⟩
      simp [convert, run_underlying hus, run_underlying hud]
    · rename_i hdu
      cases hx.sliceN_inv
      rw [hdu] at hud
      split at hr
      · rename_i e hsu
        rw [hsu] at hus
        split at hr
        · rename_i te hte
          obtain ⟨ie, hie, hue, -⟩ := tiOf_ok hte
          split at hr
          · rename_i heu
            rw [heu] at hue
            simp only [Option.some.injEq] at hr; subst hr
            refine ⟨?_, .string _⟩
            rw [run_convert_bytes_string w src dst e _ _ _ hus hue hud]
            simp [Conv.bytesToString]
          · cases hr
        · cases hr
      · cases hr
    · rename_i i off len cap hdu
      obtain ⟨_, b, σ, κ, off', hp, hσ, ho, rfl⟩ := hx.slice_inv
      rw [hdu] at hud
      split at hr
      · rename_i e hsu
        rw [hsu] at hus
        split at hr
        · rename_i te hte
          obtain ⟨ie, hie, hue, -⟩ := tiOf_ok hte
          split at hr
          · rename_i heu
            rw [heu] at hue
            split at hr
            · rename_i l hl
              split at hr
              · rename_i bs hbs
                simp only [Option.some.injEq] at hr; subst hr
                refine ⟨?_, .string _⟩
                rw [run_convert_bytes_string w src dst e _ _ _ hus hue hud]
                obtain ⟨l', hlr, hlen, hrun⟩ := loadCells_ok (P := P) H hp hl
                obtain ⟨ns, rfl, rfl⟩ := bytesV_ok hbs
                have hl' := LRel_ints hlr
                have hrun2 : (loadCells ⟨b, off', none⟩ len).run P w = .ok (ns.map (Value.int .u8)).toArray w := by
                  rcases ho with rfl | ⟨rfl, _⟩
                  · rw [hl'] at hrun; exact hrun
                  · have h0 : ns.map (Value.int IntKind.u8) = [] := by rw [← hl']; exact List.eq_nil_of_length_eq_zero hlen
                    rw [h0]; rfl
                rw [run_bytesToString w _ _ _ ns hrun2, foldl_push]
                simp
              · cases hr
            · cases hr
          · cases hr
        · cases hr
      · cases hr
    · cases hr
  · cases hr

theorem bnd_ok {x x' : Value} {n i : Nat} (hx : VRel φ x x') (hi : bnd x n = some i) : ∃ k, x' = .int k (i : Int) ∧ i ≤ n := by
  unfold bnd at hi
  split at hi
  · rename_i k j
    split at hi
    · rename_i hb
      simp only [Option.some.injEq] at hi; subst hi
      exact ⟨k, hx.int_inv, ble_true hb⟩
    · cases hi
  · cases hi

def ORelV (φ : Map) : Option Value → Option Value → Prop
  | none, none => True
  | some x, some y => VRel φ x y
  | _, _ => False

theorem sliceBounds_ok {isSlice : Bool} {len cap : Nat} {lo lo' hi hi' : Option Value} {l u : Nat} (hlo : ORelV φ lo lo') (hhi : ORelV φ hi hi') {cap' : Nat} (hc : cap ≤ cap')
    (h1 : bndO hi cap len = some u) (h2 : bndO lo u 0 = some l) :
    (Instr.sliceBounds isSlice len cap' lo' hi' none).run P w = .ok (l, u, cap') w ∧ l ≤ u ∧ (hi = none → u = len) ∧ (hi ≠ none → u ≤ cap) := by
  cases hi with
  | none =>
    cases hi' with
    | some _ => exact hhi.elim
    | none =>
      simp only [bndO, Option.some.injEq] at h1; subst h1
      cases lo with
      | none =>
        cases lo' with
        | some _ => exact hlo.elim
        | none =>
          simp only [bndO, Option.some.injEq] at h2; subst h2
          exact ⟨by simp [Instr.sliceBounds], by omega, fun _ => rfl, fun h => absurd rfl h⟩
      | some x =>
        cases lo' with
        | none => exact hlo.elim
        | some y =>
          obtain ⟨k, rfl, hle⟩ := bnd_ok hlo h2
          have r := fun c => run_sliceBound (P := P) w k (l : Int) len c (by omega) (by omega)
          exact ⟨by simp [Instr.sliceBounds, r], hle, fun _ => rfl, fun h => absurd rfl h⟩
  | some z =>
    cases hi' with
    | none => exact hhi.elim
    | some z' =>
      obtain ⟨k2, rfl, hle2⟩ := bnd_ok hhi h1
      have r2 := fun c => run_sliceBound (P := P) w k2 (u : Int) cap' c (by omega) (by omega)
      cases lo with
      | none =>
        cases lo' with
        | some _ => exact hlo.elim
        | none =>
          simp only [bndO, Option.some.injEq] at h2; subst h2
          exact ⟨by simp [Instr.sliceBounds, r2], by omega, fun h => (by cases h), fun _ => hle2⟩
      | some x =>
        cases lo' with
        | none => exact hlo.elim
        | some y =>
          obtain ⟨k, rfl, hle⟩ := bnd_ok hlo h2
          have r := fun c => run_sliceBound (P := P) w k (l : Int) u c (by omega) (by omega)
          exact ⟨by simp [Instr.sliceBounds, r, r2], hle, fun h => (by cases h), fun _ => hle2⟩

theorem sliceQ_ok (H : HRel B0 w0 φ h w) {t : TypeId} {x x' v : Value} {lo lo' hi hi' : Option Value} (hx : VRel φ x x') (hlo : ORelV φ lo lo') (hhi : ORelV φ hi hi') (hr : sliceQ P h t x lo hi = some v) :
    ∃ v', (Instr.sliceAt t x' lo' hi' none).run P w = .ok v' w ∧ VRel φ v v' := by
  unfold sliceQ at hr
  split at hr
  · rename_i ti ht
    obtain ⟨it, hit, hut, -⟩ := tiOf_ok ht
    split at hr
    · rename_i s hd
      cases hx.string_inv
      rw [hd] at hut
      split at hr
      · rename_i u hu
        split at hr
        · rename_i l hl
          simp only [Option.some.injEq] at hr; subst hr
          obtain ⟨hb, -⟩ := sliceBounds_ok (P := P) (w := w) (isSlice := false) hlo hhi (Nat.le_refl _) hu hl
          refine ⟨.string (s.extract l u), ?_, ?_⟩
          · simp only [Instr.sliceAt, Instr.slice, Sem.run_bind, run_underlying hut, Result.andThen_ok, Option.isSome_none, Bool.false_eq_true, if_false, hb, Sem.run_pure]
          · have : (⟨⟨(s.data.toList.drop l).take (u - l)⟩⟩ : ByteArray) = s.extract l u := by
              apply ByteArray.ext
              simp only [ByteArray.data_extract]
              apply Array.ext'
              simp [List.extract_eq_take_drop]
            rw [this]; exact .string _
        · cases hr
      · cases hr
    · rename_i elem a len cap hd
      rw [hd] at hut
      split at hr
      · rename_i u hu
        split at hr
        · rename_i l te hl hte hble
          have hble := ble_true hble
          obtain ⟨ie, hie, hue, hagg, hsz, -⟩ := tiOf_ok hte
          split at hr
          · rename_i b off
            simp only [Option.some.injEq] at hr; subst hr
            obtain ⟨_, b', σ, κ, off', hp, hσ, ho, rfl⟩ := hx.slice_inv
            obtain ⟨hb, q1, q3, q4⟩ := sliceBounds_ok (P := P) (w := w) (isSlice := true) (cap' := cap + κ) hlo hhi (by omega) hu hl
            refine ⟨.slice (if cap + κ = l then some ⟨b', off', none⟩ else some ⟨b', off' + l * ie.size, none⟩) (u - l) (cap + κ - l), ?_, ?_⟩
            · simp only [Instr.sliceAt, Instr.slice, Sem.run_bind, run_underlying hut, Result.andThen_ok, hb, run_sizeOf' hie, Sem.run_pure, Option.map_some, Addr.add_lit]
            · rw [show cap + κ - l = (cap - l) + κ from by omega]
              split
              · rename_i hz
                exact VRel.slice hp (by omega) (.inr ⟨by omega, by omega⟩)
              · rename_i hz
                rcases ho with rfl | ⟨rfl, hc0⟩
                · exact VRel.slice hp (by omega) (.inl (by rw [hsz]; omega))
                · exact absurd (show cap + κ = l by omega) hz
          · cases hr
          · simp only [Option.some.injEq] at hr; subst hr
            cases hx.sliceN_inv
            obtain ⟨hb, q1, q3, q4⟩ := sliceBounds_ok (P := P) (w := w) (isSlice := true) hlo hhi (Nat.le_refl _) hu hl
            refine ⟨.slice none (u - l) (cap - l), ?_, .sliceN _ _⟩
            simp only [Instr.sliceAt, Instr.slice, Sem.run_bind, run_underlying hut, Result.andThen_ok, hb, run_sizeOf' hie, Sem.run_pure, Option.map_none, ite_self]
        · cases hr
      · cases hr
    · rename_i n elem b off hd
      rw [hd] at hut
      split at hr
      · rename_i u hu
        split at hr
        · rename_i l te cs0 n0 ro0 hl hte hob
          obtain ⟨ie, hie, hue, hagg, hsz, -⟩ := tiOf_ok hte
          simp only [Option.some.injEq] at hr; subst hr
          obtain ⟨_, b', σ, κ, hp, hσ, rfl⟩ := hx.ptr_inv
          obtain ⟨hb, q1, q3, q4⟩ := sliceBounds_ok (P := P) (w := w) (isSlice := false) hlo hhi (Nat.le_refl _) hu hl
          refine ⟨.slice (some (if n = l then ⟨b', off - σ, none⟩ else ⟨b', off - σ + l * ie.size, none⟩)) (u - l) (n - l), ?_, ?_⟩
          · simp only [Instr.sliceAt, Instr.sureAddr, Sem.run_bind, Sem.run_pure, run_underlying hut, Result.andThen_ok, hb, run_sizeOf' hie, Addr.add_lit]
          · have hun : u ≤ n := by
              cases hi with
              | none => exact Nat.le_of_eq (q3 rfl)
              | some _ => exact q4 (by simp)
            obtain ⟨b2, σ2, κ2, hp2, hR⟩ := H.obj b _ hob
            rw [hp] at hp2; cases hp2
            obtain ⟨rfl, rfl, -⟩ := hR
            split
            · rename_i hz
              exact VRel.slice hp (by omega) (.inr ⟨by omega, by omega⟩)
            · rename_i hz
              exact VRel.slice hp (by omega) (.inl (by rw [hsz]; omega))
        · cases hr
      · cases hr
    · cases hr
  · cases hr

theorem fold_set_rel {off : Nat} : ∀ (l l' : List Value) (k : Nat) (cs cs' : Array Value), LRel φ l l' → LRel φ cs.toList cs'.toList →
    LRel φ ((l.zipIdx k).foldl (fun cs (p : Value × Nat) => cs.setIfInBounds (off + p.2) p.1) cs).toList ((l'.zipIdx k).foldl (fun cs (p : Value × Nat) => cs.setIfInBounds (off + p.2) p.1) cs').toList
  | [], l', k, cs, cs', hl, hc => by cases hl.nil_left; exact hc
  | v :: l, l', k, cs, cs', hl, hc => by
    obtain ⟨v', t, rfl, h1, h2⟩ := hl.cons_left
    simp only [List.zipIdx_cons, List.foldl_cons]
    exact fold_set_rel l t (k + 1) _ _ h2 (by simp only [Array.toList_setIfInBounds]; exact hc.set _ h1)

theorem fill_rel {place : Nat → Option (Nat × Nat)} : ∀ (ps ps' : List (Nat × Value)) (cs cs' r : Array Value), L2 (fun (p q : Nat × Value) => p.1 = q.1 ∧ VRel φ p.2 q.2) ps ps' → LRel φ cs.toList cs'.toList →
    Instr.fill place cs ps = some r → ∃ r', Instr.fill place cs' ps' = some r' ∧ LRel φ r.toList r'.toList
  | [], ps', cs, cs', r, hp, hc, hr => by
    cases hp.nil_left
    simp only [Instr.fill, Option.some.injEq] at hr; subst hr
    exact ⟨cs', rfl, hc⟩
  | (i, v) :: ps, ps', cs, cs', r, hp, hc, hr => by
    obtain ⟨⟨i', v'⟩, t, rfl, ⟨rfl, hv⟩, h2⟩ := hp.cons_left
    simp only [Instr.fill] at hr ⊢
    cases hpl : place i with
    | none => simp [hpl] at hr
    | some q =>
      obtain ⟨off, size⟩ := q
      simp only [hpl] at hr ⊢
      have hs : v'.cells.size = v.cells.size := hv.cells_size
      have hcs : cs'.size = cs.size := by have := hc.1; simpa using this.symm
      split at hr
      · cases hr
      · rename_i hcond
        rw [hs, hcs, if_neg hcond]
        refine fill_rel ps t _ _ r h2 ?_ hr
        rw [← Array.foldl_toList, ← Array.foldl_toList, Array.toList_zipIdx, Array.toList_zipIdx]
        exact fold_set_rel v.cells.toList v'.cells.toList 0 cs cs' hv.cells hc

theorem placesOf_ok : ∀ {fs : List Field} {pl : List (Nat × Nat)}, placesOf P fs = some pl → fs.mapM (fun f => (P.info? f.type).map fun i => (f.offset, i.size)) = some pl
  | [], pl, h => by simp only [placesOf, Option.some.injEq] at h; subst h; rfl
  | f :: fs, pl, h => by
    simp only [placesOf] at h
    split at h
    · rename_i tf r htf hr
      simp only [Option.some.injEq] at h; subst h
      obtain ⟨i, hi, _, _, hsz, -⟩ := tiOf_ok htf
      rw [List.mapM_cons, hi, placesOf_ok hr]
      simp [hsz]
    · cases h

theorem buildV_ok {t : TypeId} {ps : List (Nat × Value)} {ps' : Array (Nat × Value)} {v : Value} (hp : L2 (fun (p q : Nat × Value) => p.1 = q.1 ∧ VRel φ p.2 q.2) ps ps'.toList) (hr : buildV P t ps = some v) :
    ∃ v', (Instr.build t ps').run P w = .ok v' w ∧ VRel φ v v' := by
  unfold buildV at hr
  split at hr
  · rename_i ti ht
    obtain ⟨it, hit, hut, hagg, hsz, hby, hz⟩ := tiOf_ok ht
    split at hr
    · rename_i z hzz
      obtain ⟨hz1, hz2, hz3⟩ := hz z hzz
      have hzr : LRel φ z.cells.toList z.cells.toList := (flat_rel hz2).cells
      split at hr
      · rename_i fs hd
        rw [hd] at hut
        split at hr
        · rename_i pl hpl
          split at hr
          · rename_i cs hcs
            simp only [Option.some.injEq] at hr; subst hr
            obtain ⟨r', hf, hrel⟩ := fill_rel _ _ _ _ _ hp hzr hcs
            refine ⟨.agg r', run_build w t ps' r' ?_, VRel.agg' hrel⟩
            simp only [Program.built, hit, hut, hz1, placesOf_ok hpl]
            simpa using hf
          · cases hr
        · cases hr
      · rename_i n elem hd
        rw [hd] at hut
        split at hr
        · rename_i te hte
          obtain ⟨ie, hie, hue, _, hsze, -⟩ := tiOf_ok hte
          split at hr
          · rename_i cs hcs
            simp only [Option.some.injEq] at hr; subst hr
            obtain ⟨r', hf, hrel⟩ := fill_rel _ _ _ _ _ hp hzr hcs
            refine ⟨.agg r', run_build w t ps' r' ?_, VRel.agg' hrel⟩
            simp only [Program.built, hit, hut, hz1, hie]
            rw [← hsze]; exact hf
          · cases hr
        · cases hr
      · cases hr
    · cases hr
  · cases hr

theorem sameNow_rel {d : TypeDesc} {k k' q q' : Value} {b : Bool} (hk : VRel φ k k') (hq : VRel φ q q') (hs : Instr.sameNow d k q = some b) : Instr.sameNow d k' q' = some b := by
  unfold Instr.sameNow at hs
  split at hs
  · cases hk.int_inv; cases hq.int_inv; exact hs
  · cases hk.string_inv; cases hq.string_inv; exact hs
  · cases hk.bool_inv; cases hq.bool_inv; exact hs
  · cases hs

theorem look_ok {d : TypeDesc} {k k' : Value} (hk : VRel φ k k') : ∀ {es : List (Value × Value)} {es' : List MapEntry} (i : Nat) {r : Option Value}, L2 (fun (p : Value × Value) (e : MapEntry) => VRel φ p.1 e.key ∧ VRel φ p.2 e.val) es es' → look d k es = some r →
    (r = none ∧ Instr.findNow d k' es' i = some none) ∨ ∃ v j v', r = some v ∧ Instr.findNow d k' es' i = some (some (j, v')) ∧ VRel φ v v'
  | [], es', i, r, hl, hr => by
    cases hl.nil_left
    simp only [look, Option.some.injEq] at hr; subst hr
    exact .inl ⟨rfl, rfl⟩
  | (q, x) :: es, es', i, r, hl, hr => by
    obtain ⟨e, t, rfl, ⟨h1, h2⟩, h3⟩ := hl.cons_left
    simp only [look] at hr
    split at hr
    · rename_i hs
      simp only [Option.some.injEq] at hr; subst hr
      exact .inr ⟨x, i, e.val, rfl, by simp [Instr.findNow, sameNow_rel hk h1 hs], h2⟩
    · rename_i hs
      rcases look_ok hk (i + 1) h3 hr with ⟨a, b⟩ | ⟨v, j, v', a, b, c⟩
      · exact .inl ⟨a, by simp [Instr.findNow, sameNow_rel hk h1 hs, b]⟩
      · exact .inr ⟨v, j, v', a, by simp [Instr.findNow, sameNow_rel hk h1 hs, b], c⟩
    · cases hr

theorem run_checkKey' {kt : TypeId} {d : TypeDesc} (hd : P.underlying kt = some d) (hk : keyKind d = true) (e : Bool) (n : Nat) (k : Value) : (Instr.checkKey e (n + 1) kt k).run P w = .ok () w := by
  unfold Instr.checkKey
  simp only [Sem.run_bind, run_underlying hd, Result.andThen_ok]
  cases d <;> simp [keyKind] at hk <;> rfl

def lookTail (kt et : TypeId) (k' : Value) (ok : Bool) (es : Array MapEntry) : Sem Value := do
  Instr.checkKey es.isEmpty 10000 kt k'
  let (v, ok') ← match ← Instr.findKey kt k' es.toList with
    | some (_, v) => pure (v, true)
    | none => pure (← zeroValue et, false)
  pure (if ok then .tuple #[v, .bool ok'] else v)

theorem lookup_none {t kt et : TypeId} {k : Value} {ok : Bool} (hu : P.underlying t = some (.map kt et)) : (Instr.lookup t (.map none) k ok).run P w = (lookTail kt et k ok #[]).run P w := by
  unfold Instr.lookup lookTail
  simp only [Sem.run_bind, run_underlying hu, Result.andThen_ok, Sem.run_pure]
  rfl
theorem run_getObj' {b : Nat} {ents : Array MapEntry} {clock : Nat} (hb : w.heap[b]? = some (.map ents clock)) : (getObj b).run P w = .ok (.map ents clock) w := by
  simp [getObj, Sem.run, hb]
theorem run_setObj' {b : Nat} {ents : Array MapEntry} {clock : Nat} (o : Obj) (hb : w.heap[b]? = some (.map ents clock)) : (setObj b o).run P w = .ok () { w with heap := w.heap.setIfInBounds b o } := by
  simp [setObj, Sem.run, hb]
theorem run_findKey' {kt : TypeId} {d : TypeDesc} {k : Value} {l : List MapEntry} {a : Option (Nat × Value)} (hd : P.underlying kt = some d) (h : Instr.findNow d k l 0 = some a) : (Instr.findKey kt k l).run P w = .ok a w := by
  simp [Instr.findKey, run_underlying hd, h]
theorem lookup_some {t kt et : TypeId} {k : Value} {ok : Bool} {b : Nat} {ents : Array MapEntry} {clock : Nat} (hu : P.underlying t = some (.map kt et)) (hb : w.heap[b]? = some (.map ents clock)) :
    (Instr.lookup t (.map (some b)) k ok).run P w = (lookTail kt et k ok ents).run P w := by
  unfold Instr.lookup lookTail
  simp only [Sem.run_bind, run_underlying hu, Result.andThen_ok, Sem.run_pure, run_getObj' hb]
  rfl

theorem lookTail_ok {kt et : TypeId} {k' z : Value} {ok : Bool} {ents : Array MapEntry} {d : TypeDesc} {ie : TypeInfo} {r : Option Value} {v : Value} (huk : P.underlying kt = some d) (hkk : keyKind d = true)
    (hie : P.info? et = some ie) (hz1 : ie.zero = some z) (hz2 : flat z = true)
    (hf : (r = none ∧ Instr.findNow d k' ents.toList 0 = some none) ∨ ∃ v j v', r = some v ∧ Instr.findNow d k' ents.toList 0 = some (some (j, v')) ∧ VRel φ v v')
    (hv : (match r with
      | some v => (match ok with | true => Value.tuple #[v, .bool true] | false => v)
      | none => (match ok with | true => .tuple #[z, .bool false] | false => z)) = v) :
    ∃ v', (lookTail kt et k' ok ents).run P w = .ok v' w ∧ VRel φ v v' := by
  have hck := run_checkKey' (w := w) huk hkk ents.isEmpty 9999 k'
  unfold lookTail
  simp only [Sem.run_bind]
  rw [show (10000 : Nat) = 9999 + 1 from rfl, hck]
  simp only [Result.andThen_ok]
  rcases hf with ⟨rfl, hf⟩ | ⟨x, j, x', rfl, hf, hx⟩
  · rw [run_findKey' huk hf]
    subst hv
    simp only [Result.andThen_ok, Sem.run_bind, run_zeroValue' hie hz1, Sem.run_pure]
    cases ok with
    | true => exact ⟨_, rfl, VRel.tuple' (L2.cons (flat_rel hz2) (L2.cons (.bool _) L2.nil))⟩
    | false => exact ⟨_, rfl, flat_rel hz2⟩
  · rw [run_findKey' huk hf]
    subst hv
    simp only [Result.andThen_ok, Sem.run_bind, Sem.run_pure]
    cases ok with
    | true => exact ⟨_, rfl, VRel.tuple' (L2.cons hx (L2.cons (.bool _) L2.nil))⟩
    | false => exact ⟨_, rfl, hx⟩

theorem lookupV_ok (H : HRel B0 w0 φ h w) {t : TypeId} {m m' k k' v : Value} {ok : Bool} (hm : VRel φ m m') (hk : VRel φ k k') (hr : lookupV P h t m k ok = some v) :
    ∃ v', (Instr.lookup t m' k' ok).run P w = .ok v' w ∧ VRel φ v v' := by
  unfold lookupV at hr
  split at hr
  · rename_i ti ht
    obtain ⟨it, hit, hut, -⟩ := tiOf_ok ht
    split at hr
    · rename_i kt et hd
      rw [hd] at hut
      split at hr
      · rename_i tk te htk hte
        obtain ⟨ik, hik, huk, -⟩ := tiOf_ok htk
        obtain ⟨ie, hie, hue, _, _, _, hz⟩ := tiOf_ok hte
        split at hr
        · rename_i z hkk hzz
          obtain ⟨hz1, hz2, hz3⟩ := hz z hzz
          simp only at hr
          split at hr
          · rename_i x hx
            simp only [Option.some.injEq] at hr
            split at hx
            · simp at hx
            · obtain ⟨b, σ, κ, hp, rfl⟩ := hm.map_inv
              split at hx
              · rename_i es ho
                obtain ⟨ents, clock, hw, hl, -⟩ := H.setMap ho hp
                rw [lookup_some hut hw]
                exact lookTail_ok (r := some x) huk hkk hie hz1 hz2 (look_ok hk 0 hl hx) hr
              · cases hx
            · cases hx
          · rename_i hx
            simp only [Option.some.injEq] at hr
            split at hx
            · cases hm.mapN_inv
              rw [lookup_none hut]
              exact lookTail_ok (r := none) huk hkk hie hz1 hz2 (.inl ⟨rfl, rfl⟩) hr
            · obtain ⟨b, σ, κ, hp, rfl⟩ := hm.map_inv
              split at hx
              · rename_i es ho
                obtain ⟨ents, clock, hw, hl, -⟩ := H.setMap ho hp
                rw [lookup_some hut hw]
                exact lookTail_ok (r := none) huk hkk hie hz1 hz2 (look_ok hk 0 hl hx) hr
              · cases hx
            · cases hx
          · cases hr
        · cases hr
      · cases hr
    · cases hr
  · cases hr

theorem lenB_ok (H : HRel B0 w0 φ h w) {ts : Array TypeId} {ty : TypeId} {args args' : List Value} {v : Value} (ha : LRel φ args args') (hr : lenB P h ts args = some v) :
    (Builtin.len_ ts ty ⟨args'⟩).run P w = .ok v w ∧ VRel φ v v := by
  unfold lenB at hr
  split at hr
  · rename_i t x hts
    obtain ⟨x', t', rfl, hx, ht'⟩ := ha.cons_left
    cases ht'.nil_left
    have hts0 : ts[0]? = some t := by rw [← Array.getElem?_toList, hts]; rfl
    split at hr
    · rename_i ti ht
      obtain ⟨it, hit, hut, -⟩ := tiOf_ok ht
      have h0 : (#[x'] : Array Value)[0]? = some x' := rfl
      split at hr
      · rename_i s hd
        cases hx.string_inv
        rw [hd] at hut
        simp only [Option.some.injEq] at hr; subst hr
        exact ⟨by simp [Builtin.len_, hts0, run_underlying hut], .int _ _⟩
      · rename_i n e hd
        rw [hd] at hut
        simp only [Option.some.injEq] at hr; subst hr
        exact ⟨by simp [Builtin.len_, hts0, run_underlying hut], .int _ _⟩
      · rename_i arr hd
        rw [hd] at hut
        split at hr
        · rename_i ta hta
          obtain ⟨ia, hia, hua, -⟩ := tiOf_ok hta
          split at hr
          · rename_i n e hda
            rw [hda] at hua
            simp only [Option.some.injEq] at hr; subst hr
            exact ⟨by simp [Builtin.len_, hts0, run_underlying hut, run_underlying hua], .int _ _⟩
          · cases hr
        · cases hr
      · rename_i e a n c hd
        rw [hd] at hut
        simp only [Option.some.injEq] at hr; subst hr
        cases hx with
        | sliceN => exact ⟨by simp [Builtin.len_, hts0, run_underlying hut], .int _ _⟩
        | slice => exact ⟨by simp [Builtin.len_, hts0, run_underlying hut], .int _ _⟩
      · rename_i k e hd
        cases hx.mapN_inv
        rw [hd] at hut
        simp only [Option.some.injEq] at hr; subst hr
        exact ⟨by simp [Builtin.len_, hts0, run_underlying hut], .int _ _⟩
      · rename_i k e r hd
        rw [hd] at hut
        obtain ⟨b, σ, κ, hp, rfl⟩ := hx.map_inv
        split at hr
        · rename_i es ho
          obtain ⟨ents, clock, hw, hl, -⟩ := H.setMap ho hp
          simp only [Option.some.injEq] at hr; subst hr
          have hsz : ents.size = es.length := by have := hl.1; simpa using this.symm
          exact ⟨by simp [Builtin.len_, hts0, run_underlying hut, run_getObj' hw, hsz], .int _ _⟩
        · cases hr
      · cases hr
    · cases hr
  · cases hr

theorem capB_ok (H : HRel B0 w0 φ h w) {ts : Array TypeId} {ty : TypeId} {args args' : List Value} {v : Value} (ha : LRel φ args args') (hr : capB P h ts args = some v) :
    (Builtin.cap_ ts ty ⟨args'⟩).run P w = .ok v w ∧ VRel φ v v := by
  unfold capB at hr
  split at hr
  · rename_i t x hts
    obtain ⟨x', t', rfl, hx, ht'⟩ := ha.cons_left
    cases ht'.nil_left
    have hts0 : ts[0]? = some t := by rw [← Array.getElem?_toList, hts]; rfl
    split at hr
    · rename_i ti ht
      obtain ⟨it, hit, hut, -⟩ := tiOf_ok ht
      split at hr
      · rename_i e n c hd
        cases hx.sliceN_inv
        rw [hd] at hut
        simp only [Option.some.injEq] at hr; subst hr
        exact ⟨by simp [Builtin.cap_, hts0, run_underlying hut], .int _ _⟩
      · rename_i e i o s n c hd
        obtain ⟨_, b, σ, κ, off', hp, hσ, ho, rfl⟩ := hx.slice_inv
        rw [hd] at hut
        split at hr
        · rename_i cs m ro hob
          obtain ⟨b2, σ2, κ2, hp2, hR⟩ := H.obj i _ hob
          rw [hp] at hp2; cases hp2
          obtain ⟨rfl, rfl, -⟩ := hR
          simp only [Option.some.injEq] at hr; subst hr
          exact ⟨by simp [Builtin.cap_, hts0, run_underlying hut], .int _ _⟩
        · cases hr
      · cases hr
    · cases hr
  · cases hr

theorem minL_ok : ∀ {l l' : List Value} {x x' v : Value}, VRel φ x x' → LRel φ l l' → minL x l = some v → ∃ v', (l'.foldlM Builtin.min2 x').run P w = .ok v' w ∧ VRel φ v v'
  | [], l', x, x', v, hx, hl, hr => by
    cases hl.nil_left
    simp only [minL, Option.some.injEq] at hr; subst hr
    exact ⟨x', rfl, hx⟩
  | y :: l, l', x, x', v, hx, hl, hr => by
    obtain ⟨y', t, rfl, hy, ht⟩ := hl.cons_left
    unfold minL at hr
    split at hr
    · rename_i heq; cases heq
    · rename_i k a k2 b l2 heq
      simp only [List.cons.injEq] at heq
      obtain ⟨rfl, rfl⟩ := heq
      cases hx.int_inv; cases hy.int_inv
      obtain ⟨v', h1, h2⟩ := minL_ok (.int _ _) ht hr
      refine ⟨v', ?_, h2⟩
      simp only [List.foldlM_cons, Sem.run_bind, Builtin.min2, Sem.run_pure, Result.andThen_ok]
      exact h1
    · rename_i a b l2 heq
      simp only [List.cons.injEq] at heq
      obtain ⟨rfl, rfl⟩ := heq
      cases hx.string_inv; cases hy.string_inv
      obtain ⟨v', h1, h2⟩ := minL_ok (.string _) ht hr
      refine ⟨v', ?_, h2⟩
      simp only [List.foldlM_cons, Sem.run_bind, Builtin.min2, Op.stringOp, asBool, Sem.run_pure, Result.andThen_ok, ByteArray.toList_eq]
      exact h1
    · cases hr

theorem maxL_ok : ∀ {l l' : List Value} {x x' v : Value}, VRel φ x x' → LRel φ l l' → maxL x l = some v → ∃ v', (l'.foldlM Builtin.max2 x').run P w = .ok v' w ∧ VRel φ v v'
  | [], l', x, x', v, hx, hl, hr => by
    cases hl.nil_left
    simp only [maxL, Option.some.injEq] at hr; subst hr
    exact ⟨x', rfl, hx⟩
  | y :: l, l', x, x', v, hx, hl, hr => by
    obtain ⟨y', t, rfl, hy, ht⟩ := hl.cons_left
    unfold maxL at hr
    split at hr
    · rename_i heq; cases heq
    · rename_i k a k2 b l2 heq
      simp only [List.cons.injEq] at heq
      obtain ⟨rfl, rfl⟩ := heq
      cases hx.int_inv; cases hy.int_inv
      obtain ⟨v', h1, h2⟩ := maxL_ok (.int _ _) ht hr
      refine ⟨v', ?_, h2⟩
      simp only [List.foldlM_cons, Sem.run_bind, Builtin.max2, Sem.run_pure, Result.andThen_ok]
      exact h1
    · rename_i a b l2 heq
      simp only [List.cons.injEq] at heq
      obtain ⟨rfl, rfl⟩ := heq
      cases hx.string_inv; cases hy.string_inv
      obtain ⟨v', h1, h2⟩ := maxL_ok (.string _) ht hr
      refine ⟨v', ?_, h2⟩
      simp only [List.foldlM_cons, Sem.run_bind, Builtin.max2, Op.stringOp, asBool, Sem.run_pure, Result.andThen_ok, ByteArray.toList_eq]
      exact h1
    · cases hr

theorem builtinQ_ok (H : HRel B0 w0 φ h w) {b : Builtin} {ts : Array TypeId} {ty : TypeId} {cs : Array Bool} {args args' : List Value} {v : Value} (ha : LRel φ args args') (hr : builtinQ P h b ts args = some v) :
    ∃ v', (builtin b ts ty cs ⟨args'⟩).run P w = .ok (.value v') w ∧ VRel φ v v' := by
  unfold builtinQ at hr
  split at hr
  · obtain ⟨h1, h2⟩ := lenB_ok (P := P) (ty := ty) H ha hr
    exact ⟨v, by simp only [builtin, Sem.run_bind, h1, Result.andThen_ok, Sem.run_pure], h2⟩
  · obtain ⟨h1, h2⟩ := capB_ok (P := P) (ty := ty) H ha hr
    exact ⟨v, by simp only [builtin, Sem.run_bind, h1, Result.andThen_ok, Sem.run_pure], h2⟩
  · split at hr
    · obtain ⟨x', t, rfl, hx, ht⟩ := ha.cons_left
      obtain ⟨v', h1, h2⟩ := minL_ok (P := P) (w := w) hx ht hr
      exact ⟨v', by simp only [builtin, Builtin.min_, Sem.run_bind, h1, Result.andThen_ok, Sem.run_pure], h2⟩
    · cases hr
  · split at hr
    · obtain ⟨x', t, rfl, hx, ht⟩ := ha.cons_left
      obtain ⟨v', h1, h2⟩ := maxL_ok (P := P) (w := w) hx ht hr
      exact ⟨v', by simp only [builtin, Builtin.max_, Sem.run_bind, h1, Result.andThen_ok, Sem.run_pure], h2⟩
    · cases hr
  · cases hr

theorem nilCheckV_shape {x x' v : Value} (hx : VRel φ x x') (hr : nilCheckV x = some v) : v = x ∧ (x' ≠ .pointer none ∧ x' ≠ .nilIface ∧ x' ≠ .nilFunc ∧ ∀ n f c, x' ≠ .func (.method n) f c) := by
  unfold nilCheckV at hr
  split at hr
  · cases hr
  · cases hr
  · cases hr
  · cases hr
  · rename_i n1 n2 n3 n4
    simp only [Option.some.injEq] at hr; subst hr
    refine ⟨rfl, ?_, ?_, ?_, ?_⟩
    · rintro rfl; cases hx; exact n1 rfl
    · rintro rfl; cases hx; exact n2 rfl
    · rintro rfl; cases hx; exact n3 rfl
    · rintro n f c rfl; cases hx; exact n4 _ _ _ rfl

/-- Whatever an operation's operands come to: related values. -/
def Rev (φ : Map) (F : Fr) (ρ : Operand → Value) (l : List Operand) : Prop := ∀ x, x ∈ l → VRel φ (F.ev x) (ρ x)

theorem Rev.list {F : Fr} {ρ : Operand → Value} {l : List Operand} (hr : Rev φ F ρ l) {m : List Operand} (hm : ∀ x, x ∈ m → x ∈ l) : LRel φ (m.map F.ev) (m.map ρ) :=
  L2.self_map fun a ha => hr a (hm a ha)
theorem Rev.vals {F : Fr} {ρ : Operand → Value} {l : List Operand} (hr : Rev φ F ρ l) {m : Array Operand} (hm : ∀ x, x ∈ m.toList → x ∈ l) : LRel φ (vals F m) (m.map ρ).toList := by
  rw [Array.toList_map]; exact hr.list hm
theorem Rev.pairs {F : Fr} {ρ : Operand → Value} {l : List Operand} (hr : Rev φ F ρ l) {m : List (Nat × Operand)} (hm : ∀ p, p ∈ m → p.2 ∈ l) :
    L2 (fun (p q : Nat × Value) => p.1 = q.1 ∧ VRel φ p.2 q.2) (m.map fun p => (p.1, F.ev p.2)) (m.map fun p => (p.1, ρ p.2)) :=
  L2.self_map fun a ha => ⟨rfl, hr a.2 (hm a ha)⟩
theorem Rev.opt {F : Fr} {ρ : Operand → Value} {l : List Operand} (hr : Rev φ F ρ l) {x : Option Operand} (hm : ∀ y, x = some y → y ∈ l) : ORelV φ (x.map F.ev) (x.map ρ) := by
  cases x with
  | none => trivial
  | some y => exact hr y (hm y rfl)

theorem opQ_ok (H : HRel B0 w0 φ h w) {F : Fr} {ρ : Operand → Value} {o : Oper} {v : Value} (hv : Rev φ F ρ o.op.operands.toList) (hr : opQ P F h o.op = some v) :
    ∃ v', (execOp ρ o).run P w = .ok (.value v') w ∧ VRel φ v v' := by
  obtain ⟨dst, op, type, pos, after, guard⟩ := o
  simp only at hv hr
  have Q : ∀ {s : Sem Value} {v'}, s.run P w = .ok v' w → (do pure (Next.value (← s)) : Sem Next).run P w = .ok (.value v') w := fun hs => by
    simp only [Sem.run_bind, hs, Result.andThen_ok, Sem.run_pure]
  unfold opQ at hr
  split at hr
  · simp only [Option.some.injEq] at hr; subst hr
    exact ⟨_, rfl, hv _ (by simp [Op.operands])⟩
  · simp only [Option.some.injEq] at hr; subst hr
    exact ⟨_, rfl, hv _ (by simp [Op.operands])⟩
  · rename_i c a b
    have hc := hv c (by simp [Op.operands])
    split at hr
    · rename_i he
      rw [he] at hc
      simp only [Option.some.injEq] at hr; subst hr
      exact ⟨ρ a, by simp [execOp, hc.bool_inv, asBool], hv a (by simp [Op.operands])⟩
    · rename_i he
      rw [he] at hc
      simp only [Option.some.injEq] at hr; subst hr
      exact ⟨ρ b, by simp [execOp, hc.bool_inv, asBool], hv b (by simp [Op.operands])⟩
    · cases hr
  · rename_i t parts
    obtain ⟨v', h1, h2⟩ := buildV_ok (P := P) (w := w) (ps' := parts.map fun (i, x) => (i, ρ x)) (by
      rw [Array.toList_map]
      exact hv.pairs (fun p hp => by simp only [Op.operands]; simp; exact ⟨p.1, by simpa using hp⟩)) hr
    exact ⟨v', Q h1, h2⟩
  · rename_i t a
    obtain ⟨v', h1, h2⟩ := loadV_ok (P := P) H (hv a (by simp [Op.operands])) hr
    exact ⟨v', Q h1, h2⟩
  · rename_i x
    obtain ⟨rfl, n1, n2, n3, n4⟩ := nilCheckV_shape (hv x (by simp [Op.operands])) hr
    refine ⟨ρ x, ?_, hv x (by simp [Op.operands])⟩
    have he : execOp ρ ⟨dst, .nilCheck x, type, pos, after, guard⟩ = pure (.value (ρ x)) := by
      simp only [execOp]
    rw [he]; rfl
  · rename_i op t x y yt
    obtain ⟨h1, h2⟩ := binV_ok (P := P) (w := w) (hv x (by simp [Op.operands])) (hv y (by simp [Op.operands])) hr
    exact ⟨v, Q h1, h2⟩
  · rename_i op t x
    obtain ⟨h1, h2⟩ := unV_ok (P := P) (w := w) (hv x (by simp [Op.operands])) hr
    exact ⟨v, Q h1, h2⟩
  · rename_i s d x
    obtain ⟨h1, h2⟩ := convQ_ok (P := P) H (hv x (by simp [Op.operands])) hr
    exact ⟨v, Q h1, h2⟩
  · rename_i t x
    split at hr
    · rename_i ti ht
      obtain ⟨it, hit, hut, -⟩ := tiOf_ok ht
      have hx := hv x (by simp [Op.operands])
      split at hr
      · cases hr
      · rename_i hni
        simp only [Option.some.injEq] at hr; subst hr
        refine ⟨.iface t (ρ x), Q ?_, .iface t hx⟩
        simp only [Instr.makeInterface, Sem.run_bind, run_underlying hut, Result.andThen_ok]
        rfl
    · cases hr
  · rename_i fn first captured
    simp only [Option.some.injEq] at hr; subst hr
    refine ⟨.func fn (first.map ρ) (captured.map ρ), Q rfl, ?_⟩
    exact VRel.func' fn (hv.vals (fun x hx => by simp [Op.operands] at hx ⊢; exact .inl hx)) (hv.vals (fun x hx => by simp [Op.operands] at hx ⊢; exact .inr hx))
  · rename_i t x lo hi
    obtain ⟨v', h1, h2⟩ := sliceQ_ok (P := P) H (hv x (by simp [Op.operands])) (hv.opt (x := lo) (fun y hy => by subst hy; simp [Op.operands])) (hv.opt (x := hi) (fun y hy => by subst hy; simp [Op.operands])) hr
    exact ⟨v', Q h1, h2⟩
  · rename_i t x f
    obtain ⟨v', h1, h2⟩ := fieldAddrV_ok (P := P) (w := w) (hv x (by simp [Op.operands])) hr
    exact ⟨v', Q h1, h2⟩
  · rename_i t x f
    obtain ⟨v', h1, h2⟩ := fieldV_ok (P := P) (w := w) (hv x (by simp [Op.operands])) hr
    exact ⟨v', Q h1, h2⟩
  · rename_i t x i
    obtain ⟨v', h1, h2⟩ := indexAddrV_ok (P := P) (w := w) (hv x (by simp [Op.operands])) (hv i (by simp [Op.operands])) hr
    exact ⟨v', Q h1, h2⟩
  · rename_i t x i
    obtain ⟨v', h1, h2⟩ := indexV_ok (P := P) (w := w) (hv x (by simp [Op.operands])) (hv i (by simp [Op.operands])) hr
    exact ⟨v', Q h1, h2⟩
  · rename_i t m k ok
    obtain ⟨v', h1, h2⟩ := lookupV_ok (P := P) H (hv m (by simp [Op.operands])) (hv k (by simp [Op.operands])) hr
    exact ⟨v', Q h1, h2⟩
  · rename_i x i
    have hx := hv x (by simp [Op.operands])
    split at hr
    · rename_i vs he
      rw [he] at hx
      obtain ⟨cs', hc, hl⟩ := hx.tuple_inv
      obtain ⟨v', hv', hr'⟩ := hl.get (i := i) (v := v) (by simpa using hr)
      refine ⟨v', Q ?_, hr'⟩
      have hv2 : cs'[i]? = some v' := by simpa using hv'
      simp [Instr.extract, hc, hv2]
    · cases hr
  · rename_i b args ats
    obtain ⟨v', h1, h2⟩ := builtinQ_ok (P := P) (ty := type) (cs := args.map fun | .const _ => true | _ => false) H (hv.vals (m := args) (fun x hx => by simpa [Op.operands, Call.operands] using hx)) hr
    refine ⟨v', ?_, h2⟩
    simp only [execOp, resolve, Sem.run_bind, Sem.run_pure, Result.andThen_ok, invoke]
    exact h1
  · cases hr

end Go.Abs
