/- The other quiet operations: arithmetic, comparisons, conversions, building, slicing, looking up, lengths. -/
import Derived.Test.YtgdkekdedgkglaaBkOps
import Derived.Laws.Tables
import Derived.Laws.Strings
import Derived.Laws.StructEq
import Derived.MapKept
open Go.RowKit
namespace Go.Abs
variable {B0 : Nat} {w0 : World} {φ : Map} {h h' : AW} {w : World} {P : Program}

theorem intBin_ok {op : BinOp} {k : IntKind} {x y : Int} {v : Value} {t : TypeId} (hsh : op ≠ .shl ∧ op ≠ .shr) (hr : intBin op k x y = some v) : (binOp op t (.int k x) (.int k y)).run P w = .ok v w := by
  cases op <;> simp only [intBin] at hr
  case quo => split at hr <;> simp_all [binOp, Op.intDiv]
  case rem => split at hr <;> simp_all [binOp, Op.intDiv]
  case shl => exact absurd rfl hsh.1
  case shr => exact absurd rfl hsh.2
  all_goals simp only [Option.some.injEq] at hr; subst hr; simp [binOp, Op.intArith, Op.intCmp, Op.intBits]

theorem strBin_ok {op : BinOp} {x y : ByteArray} {v : Value} {t : TypeId} (hr : strBin op x y = some v) : (binOp op t (.string x) (.string y)).run P w = .ok v w := by
  cases op <;> simp only [strBin] at hr
  case add =>
    split at hr
    · rename_i hb
      have := ble_true hb
      simp only [Option.some.injEq] at hr; subst hr
      have h63 : ¬ (((x.size + y.size : Nat) : Int) > 9223372036854775807) := by omega
      have hm : IntKind.i64.max = 9223372036854775807 := by decide
      simp only [binOp, Op.stringOp, hm, if_neg h63]
      rfl
    · cases hr
  all_goals (try cases hr)
  all_goals simp [binOp, Op.stringOp, ByteArray.toList_eq]

theorem cellEq_rel {x y x' y' : Value} {b : Bool} (hx : VRel φ x x') (hy : VRel φ y y') (he : cellEq x y = some b) : cellEq x' y' = some b := by
  unfold cellEq at he
  split at he
  · cases hx.bool_inv; cases hy.bool_inv; exact he
  · cases hx.int_inv; cases hy.int_inv; exact he
  · cases hx.string_inv; cases hy.string_inv; exact he
  · cases he

theorem cellEq_run' {t : TypeId} {d : TypeDesc} {x y : Value} {b : Bool} {n : Nat} (hd : P.underlying t = some d) (hs : cellFits d x = true) (hk : cellEq x y = some b) :
    (Op.equalIn (n + 1) t x y).run P w = .ok b w := by
  unfold cellEq at hk
  split at hk
  · cases d <;> simp [cellFits] at hs
    simp only [Option.some.injEq] at hk; subst hk
    simp [Op.equalIn, run_underlying hd]
  · cases d <;> simp [cellFits] at hs
    split at hk
    · simp only [Option.some.injEq] at hk; subst hk
      rename_i hkk
      simp [Op.equalIn, run_underlying hd, hkk]
    · cases hk
  · cases d <;> simp [cellFits] at hs
    simp only [Option.some.injEq] at hk; subst hk
    rename_i a b
    simp [Op.equalIn, run_underlying hd, beq_toListBytes, ByteArray.toList_eq]
  · cases hk

theorem cellFits_rel {d : TypeDesc} {x x' : Value} (hx : VRel φ x x') (h : cellFits d x = true) : cellFits d x' = true := by
  cases d <;> cases x <;> simp [cellFits] at h <;> cases hx <;> rfl

theorem eqFields_run {n : Nat} (xs ys : Array Value) : ∀ (fs : List Field) (k : Nat) (X Y : List Value) (b : Bool), plainFields P k fs = true → fieldsEq P fs X Y = some b →
    X = xs.toList.drop k → Y = ys.toList.drop k → (Op.eqFields (n + 1) xs ys fs).run P w = .ok b w
  | [], k, X, Y, b, _, he, hX, hY => by
    cases X <;> cases Y <;> simp [fieldsEq] at he
    subst he; simp [Op.eqFields]
  | f :: fs, k, X, Y, b, hp, he, hX, hY => by
    cases X with
    | nil => cases Y <;> simp [fieldsEq] at he
    | cons x X =>
      cases Y with
      | nil => simp [fieldsEq] at he
      | cons y Y =>
        simp only [plainFields] at hp
        cases hd : P.underlying f.type with
        | none => simp [hd] at hp
        | some d =>
          simp only [hd, Bool.and_eq_true] at hp
          obtain ⟨⟨⟨hname, hoff⟩, hsc⟩, hrest⟩ := hp
          have hoff := Nat.eq_of_beq_eq_true hoff
          simp only [fieldsEq, hd] at he
          split at he
          · rename_i hfit
            have hx0 : xs[k]? = some x := by
              have : (xs.toList.drop k)[0]? = some x := by rw [← hX]; rfl
              simpa using this
            have hy0 : ys[k]? = some y := by
              have : (ys.toList.drop k)[0]? = some y := by rw [← hY]; rfl
              simpa using this
            have hagg : aggOf d = false := by cases d <;> simp [scalar] at hsc <;> rfl
            have hX' : X = xs.toList.drop (k + 1) := by rw [← List.tail_drop, ← hX]; rfl
            have hY' : Y = ys.toList.drop (k + 1) := by rw [← List.tail_drop, ← hY]; rfl
            have hpx : (part f.type xs f.offset).run P w = .ok x w := by
              simp only [part, Sem.run_bind, run_isAgg' hd, Result.andThen_ok, hagg, Bool.false_eq_true, if_false, hoff, hx0, Sem.run_pure]
            have hpy : (part f.type ys f.offset).run P w = .ok y w := by
              simp only [part, Sem.run_bind, run_isAgg' hd, Result.andThen_ok, hagg, Bool.false_eq_true, if_false, hoff, hy0, Sem.run_pure]
            have hname' : f.name ≠ "_" := by simpa using hname
            simp only [Op.eqFields, ne_eq, hname', not_false_eq_true, if_true, Sem.run_bind, hpx, hpy, Result.andThen_ok]
            cases hc : cellEq x y with
            | none => simp [hc] at he
            | some c =>
              rw [cellEq_run' hd hfit hc]
              rw [hc] at he
              cases c with
              | true =>
                simp only [Result.andThen_ok, Bool.not_true, Bool.false_eq_true, if_false]
                exact eqFields_run xs ys fs (k + 1) X Y b hrest he hX' hY'
              | false =>
                simp only [Option.some.injEq] at he; subst he
                simp
          · cases he

theorem fieldsEq_rel : ∀ {fs : List Field} {xs ys xs' ys' : List Value} {b : Bool}, LRel φ xs xs' → LRel φ ys ys' → fieldsEq P fs xs ys = some b → fieldsEq P fs xs' ys' = some b
  | [], [], [], xs', ys', b, hx, hy, he => by cases hx.nil_left; cases hy.nil_left; exact he
  | f :: fs, x :: xs, y :: ys, xs', ys', b, hx, hy, he => by
    obtain ⟨x', tx, rfl, h1, h2⟩ := hx.cons_left
    obtain ⟨y', ty, rfl, h3, h4⟩ := hy.cons_left
    simp only [fieldsEq] at he ⊢
    cases hd : P.underlying f.type with
    | none => simp [hd] at he
    | some d =>
      simp only [hd] at he ⊢
      split at he
      · rename_i hfit
        rw [cellFits_rel h1 hfit]
        simp only []
        cases hc : cellEq x y with
        | none => simp [hc] at he
        | some c =>
          rw [cellEq_rel h1 h3 hc]
          rw [hc] at he
          cases c with
          | true => exact fieldsEq_rel h2 h4 he
          | false => exact he
      · cases he
  | [], [], _ :: _, _, _, _, _, _, he => by simp [fieldsEq] at he
  | [], _ :: _, _, _, _, _, _, _, he => by simp [fieldsEq] at he
  | _ :: _, [], _, _, _, _, _, _, he => by simp [fieldsEq] at he
  | _ :: _, _ :: _, [], _, _, _, _, _, he => by simp [fieldsEq] at he

theorem eqGuard_triv {op : BinOp} {t : TypeId} {o1 o2 : Operand} {x y : Value} (hn : ¬ (x = .nilIface ∧ y = .nilIface)) (ha : ¬ ∃ a b, x = .agg a ∧ y = .agg b) :
    (eqGuard op t o1 o2 x y).run P w = .ok () w := by
  cases op
  case eql => cases x <;> cases y <;> first | (exact absurd ⟨rfl, rfl⟩ hn) | (exact absurd ⟨_, _, rfl, rfl⟩ ha) | rfl
  case neq => cases x <;> cases y <;> first | (exact absurd ⟨rfl, rfl⟩ hn) | (exact absurd ⟨_, _, rfl, rfl⟩ ha) | rfl
  all_goals rfl

section
variable {t : TypeId} (n : Nat)
theorem eq_bool (hu : P.underlying t = some .bool) (a b : Bool) : (Op.equalIn (n + 1) t (.bool a) (.bool b)).run P w = .ok (a == b) w := by simp [Op.equalIn, run_underlying hu]
theorem eq_ptrL {e : TypeId} (hu : P.underlying t = some (.pointer e)) (q : Option Addr) : (Op.equalIn (n + 1) t (.pointer none) (.pointer q)).run P w = .ok q.isNone w := by simp [Op.equalIn, run_underlying hu]
theorem eq_ptrR {e : TypeId} (hu : P.underlying t = some (.pointer e)) (a : Addr) : (Op.equalIn (n + 1) t (.pointer (some a)) (.pointer none)).run P w = .ok false w := by simp [Op.equalIn, run_underlying hu]
theorem eq_ptrS {e : TypeId} {ie : TypeInfo} (hu : P.underlying t = some (.pointer e)) (hi : P.info? e = some ie) (a : Addr) : (Op.equalIn (n + 1) t (.pointer (some a)) (.pointer (some a))).run P w = .ok true w := by
  simp only [Op.equalIn, Sem.run_bind, run_underlying hu, Result.andThen_ok, run_sizeOf' hi]
  split
  · simp [sameAddr]
  · simp
theorem eq_ifN {ms : Array (String × TypeId)} (hu : P.underlying t = some (.interface ms)) : (Op.equalIn (n + 1) t .nilIface .nilIface).run P w = .ok true w := by simp [Op.equalIn, run_underlying hu]
theorem eq_ifL {ms : Array (String × TypeId)} (hu : P.underlying t = some (.interface ms)) (u : TypeId) (v : Value) : (Op.equalIn (n + 1) t .nilIface (.iface u v)).run P w = .ok false w := by simp [Op.equalIn, run_underlying hu]
theorem eq_ifR {ms : Array (String × TypeId)} (hu : P.underlying t = some (.interface ms)) (u : TypeId) (v : Value) : (Op.equalIn (n + 1) t (.iface u v) .nilIface).run P w = .ok false w := by simp [Op.equalIn, run_underlying hu]
theorem eq_ifD {ms : Array (String × TypeId)} (hu : P.underlying t = some (.interface ms)) {u u' : TypeId} (hne : u ≠ u') (v v' : Value) : (Op.equalIn (n + 1) t (.iface u v) (.iface u' v')).run P w = .ok false w := by
  simp only [Op.equalIn, Sem.run_bind, run_underlying hu, Result.andThen_ok, ne_eq, hne, not_false_eq_true, if_true, Sem.run_pure]
theorem eq_slL {e : TypeId} (hu : P.underlying t = some (.slice e)) (q : Option Addr) (a b c d : Nat) : (Op.equalIn (n + 1) t (.slice none a b) (.slice q c d)).run P w = .ok q.isNone w := by simp [Op.equalIn, run_underlying hu]
theorem eq_slR {e : TypeId} (hu : P.underlying t = some (.slice e)) (q : Addr) (a b c d : Nat) : (Op.equalIn (n + 1) t (.slice (some q) a b) (.slice none c d)).run P w = .ok false w := by simp [Op.equalIn, run_underlying hu]
theorem eq_mpL {k e : TypeId} (hu : P.underlying t = some (.map k e)) (q : Option Nat) : (Op.equalIn (n + 1) t (.map none) (.map q)).run P w = .ok q.isNone w := by simp [Op.equalIn, run_underlying hu]
theorem eq_mpR {k e : TypeId} (hu : P.underlying t = some (.map k e)) (q : Nat) : (Op.equalIn (n + 1) t (.map (some q)) (.map none)).run P w = .ok false w := by simp [Op.equalIn, run_underlying hu]
theorem eq_fnN {a b : Array TypeId} {c : Bool} (hu : P.underlying t = some (.func a b c)) : (Op.equalIn (n + 1) t .nilFunc .nilFunc).run P w = .ok true w := by simp [Op.equalIn, run_underlying hu]
theorem eq_fnL {a b : Array TypeId} {c : Bool} (hu : P.underlying t = some (.func a b c)) (f : Fn) (x y : Array Value) : (Op.equalIn (n + 1) t .nilFunc (.func f x y)).run P w = .ok false w := by simp [Op.equalIn, run_underlying hu]
theorem eq_fnR {a b : Array TypeId} {c : Bool} (hu : P.underlying t = some (.func a b c)) (f : Fn) (x y : Array Value) : (Op.equalIn (n + 1) t (.func f x y) .nilFunc).run P w = .ok false w := by simp [Op.equalIn, run_underlying hu]
end

theorem eqV_ok {t : TypeId} {lit : Bool} {x y x' y' : Value} {b : Bool} (hx : VRel φ x x') (hy : VRel φ y y') (he : eqV P t lit x y = some b) :
    (Op.equal t x' y').run P w = .ok b w ∧ (∀ (op : BinOp) (o1 o2 : Operand), (isConst o1 || isConst o2) = lit → (eqGuard op t o1 o2 x' y').run P w = .ok () w) := by
  unfold eqV at he
  split at he
  · rename_i ti ht
    obtain ⟨info, hi, hu, -⟩ := tiOf_ok ht
    split at he
    · rename_i hd
      cases hx.bool_inv; cases hy.bool_inv
      rw [hd] at hu
      simp only [Option.some.injEq] at he; subst he
      exact ⟨eq_bool 9999 hu _ _, fun op o1 o2 _ => eqGuard_triv (by simp) (by simp)⟩
    · rename_i e q hd
      cases hx
      rw [hd] at hu
      simp only [Option.some.injEq] at he; subst he
      cases hy
      · exact ⟨eq_ptrL 9999 hu _, fun op o1 o2 _ => eqGuard_triv (by simp) (by simp)⟩
      · exact ⟨eq_ptrL 9999 hu _, fun op o1 o2 _ => eqGuard_triv (by simp) (by simp)⟩
    · rename_i e a hd
      cases hx; cases hy
      rw [hd] at hu
      simp only [Option.some.injEq] at he; subst he
      exact ⟨eq_ptrR 9999 hu _, fun op o1 o2 _ => eqGuard_triv (by simp) (by simp)⟩
    · rename_i e i off j off' hd
      split at he
      · rename_i hb
        simp only [Option.some.injEq] at he; subst he
        simp only [Bool.and_eq_true] at hb
        have e1 := beq_true hb.1.1
        have e2 := beq_true hb.1.2
        subst e1; subst e2
        obtain ⟨_, b1, σ1, κ1, hp1, hs1, rfl⟩ := hx.ptr_inv
        obtain ⟨_, b2, σ2, κ2, hp2, hs2, rfl⟩ := hy.ptr_inv
        rw [hp1] at hp2; cases hp2
        rw [hd] at hu
        obtain ⟨te, hte⟩ := Option.isSome_iff_exists.1 hb.2
        obtain ⟨ie, hel, -⟩ := tiOf_ok hte
        exact ⟨eq_ptrS 9999 hu hel _, fun op o1 o2 _ => eqGuard_triv (by simp) (by simp)⟩
      · cases he
    · rename_i ms hd
      cases hx; cases hy
      rw [hd] at hu
      cases lit with
      | false => cases he
      | true =>
        simp only [Option.some.injEq] at he; subst he
        refine ⟨eq_ifN 9999 hu, fun op o1 o2 hl => ?_⟩
        cases op <;> cases o1 <;> cases o2 <;> first | rfl | (simp [isConst] at hl)
    · rename_i ms t2 v2 hd
      cases hx; cases hy
      rw [hd] at hu
      simp only [Option.some.injEq] at he; subst he
      exact ⟨eq_ifL 9999 hu _ _, fun op o1 o2 _ => eqGuard_triv (by simp) (by simp)⟩
    · rename_i ms t2 v2 hd
      cases hx; cases hy
      rw [hd] at hu
      simp only [Option.some.injEq] at he; subst he
      exact ⟨eq_ifR 9999 hu _ _, fun op o1 o2 _ => eqGuard_triv (by simp) (by simp)⟩
    · rename_i ms t2 v2 t3 v3 hd
      cases hx; cases hy
      rw [hd] at hu
      split at he
      · cases he
      · rename_i hne
        simp only [Option.some.injEq] at he; subst he
        exact ⟨eq_ifD 9999 hu hne _ _, fun op o1 o2 _ => eqGuard_triv (by simp) (by simp)⟩
    · rename_i e _ _ q _ _ hd
      cases hx
      rw [hd] at hu
      simp only [Option.some.injEq] at he; subst he
      cases hy
      · exact ⟨eq_slL 9999 hu _ _ _ _ _, fun op o1 o2 _ => eqGuard_triv (by simp) (by simp)⟩
      · exact ⟨eq_slL 9999 hu _ _ _ _ _, fun op o1 o2 _ => eqGuard_triv (by simp) (by simp)⟩
    · rename_i e a _ _ _ _ hd
      cases hx; cases hy
      rw [hd] at hu
      simp only [Option.some.injEq] at he; subst he
      exact ⟨eq_slR 9999 hu _ _ _ _ _, fun op o1 o2 _ => eqGuard_triv (by simp) (by simp)⟩
    · rename_i k e q hd
      cases hx
      rw [hd] at hu
      simp only [Option.some.injEq] at he; subst he
      cases hy
      · exact ⟨eq_mpL 9999 hu _, fun op o1 o2 _ => eqGuard_triv (by simp) (by simp)⟩
      · exact ⟨eq_mpL 9999 hu _, fun op o1 o2 _ => eqGuard_triv (by simp) (by simp)⟩
    · rename_i k e a hd
      cases hx; cases hy
      rw [hd] at hu
      simp only [Option.some.injEq] at he; subst he
      exact ⟨eq_mpR 9999 hu _, fun op o1 o2 _ => eqGuard_triv (by simp) (by simp)⟩
    · rename_i ps rs vr hd
      cases hx; cases hy
      rw [hd] at hu
      simp only [Option.some.injEq] at he; subst he
      exact ⟨eq_fnN 9999 hu, fun op o1 o2 _ => eqGuard_triv (by simp) (by simp)⟩
    · rename_i ps rs vr fn f c hd
      cases hx; cases hy
      rw [hd] at hu
      simp only [Option.some.injEq] at he; subst he
      exact ⟨eq_fnL 9999 hu _ _ _, fun op o1 o2 _ => eqGuard_triv (by simp) (by simp)⟩
    · rename_i ps rs vr fn f c hd
      cases hx; cases hy
      rw [hd] at hu
      simp only [Option.some.injEq] at he; subst he
      exact ⟨eq_fnR 9999 hu _ _ _, fun op o1 o2 _ => eqGuard_triv (by simp) (by simp)⟩
    · rename_i fs xs ys hd
      split at he
      · rename_i hpl
        simp only [plainEq, Bool.and_eq_true, Bool.not_eq_true'] at hpl
        obtain ⟨⟨hpf, hst⟩, hgu⟩ := hpl
        obtain ⟨xs', rfl, hxs⟩ := hx.agg_inv
        obtain ⟨ys', rfl, hys⟩ := hy.agg_inv
        rw [hd] at hu
        have hfo : P.fieldsOf t = fs := by simp [Program.fieldsOf, hu]
        refine ⟨?_, fun op o1 o2 _ => ?_⟩
        · have := run_equalIn_struct w 9999 t xs' ys' (by rw [hfo]; exact hu) hst
          rw [hfo] at this
          exact this.trans (eqFields_run (n := 9998) xs' ys' fs.toList 0 _ _ b hpf (fieldsEq_rel hxs hys he) (by simp) (by simp))
        · cases op <;> first | rfl | simp [eqGuard, hgu]
      · cases he
    · cases he
  · cases he

theorem intBin_flat {op : BinOp} {k : IntKind} {x y : Int} {v : Value} (h : intBin op k x y = some v) : flat v = true := by
  cases op <;> simp only [intBin] at h <;> (try split at h) <;> first | (cases h; rfl) | cases h
theorem strBin_flat {op : BinOp} {x y : ByteArray} {v : Value} (h : strBin op x y = some v) : flat v = true := by
  cases op <;> simp only [strBin] at h <;> (try split at h) <;> first | (cases h; rfl) | cases h

def eqShape : Value → Bool
  | .bool _ | .pointer _ | .nilIface | .iface _ _ | .slice _ _ _ | .map _ | .func _ _ _ | .nilFunc | .agg _ => true
  | _ => false
theorem eqV_shape {t : TypeId} {lit : Bool} {x y : Value} {b : Bool} (he : eqV P t lit x y = some b) : eqShape x = true := by
  unfold eqV at he
  split at he
  · split at he <;> first | rfl | cases he
  · cases he
theorem VRel.shape {x x' : Value} (hx : VRel φ x x') (h : eqShape x = true) : eqShape x' = true := by
  cases hx <;> first | rfl | (simp [eqShape] at h)
theorem run_eql {t : TypeId} {x y : Value} {b : Bool} (hx : eqShape x = true) (hr : (Op.equal t x y).run P w = .ok b w) : (binOp .eql t x y).run P w = .ok (.bool b) w := by
  have : binOp .eql t x y = (do pure (.bool (← Op.equal t x y)) : Sem Value) := by
    cases x <;> first | (simp [eqShape] at hx; done) | (cases y <;> rfl)
  rw [this]
  simp only [Sem.run_bind, hr, Result.andThen_ok, Sem.run_pure]
theorem run_neq {t : TypeId} {x y : Value} {b : Bool} (hx : eqShape x = true) (hr : (Op.equal t x y).run P w = .ok b w) : (binOp .neq t x y).run P w = .ok (.bool !b) w := by
  have : binOp .neq t x y = (do pure (.bool (!(← Op.equal t x y))) : Sem Value) := by
    cases x <;> first | (simp [eqShape] at hx; done) | (cases y <;> rfl)
  rw [this]
  simp only [Sem.run_bind, hr, Result.andThen_ok, Sem.run_pure]

theorem binV_ok {op : BinOp} {t : TypeId} {o1 o2 : Operand} {x y x' y' v : Value} (hx : VRel φ x x') (hy : VRel φ y y') (hr : binV P op t (isConst o1 || isConst o2) x y = some v) :
    (do eqGuard op t o1 o2 x' y'; binOp op t x' y' : Sem Value).run P w = .ok v w ∧ VRel φ v v := by
  have guard : (¬ (x' = .nilIface ∧ y' = .nilIface) ∧ ¬ ∃ a b, x' = .agg a ∧ y' = .agg b) → (binOp op t x' y').run P w = .ok v w → (do eqGuard op t o1 o2 x' y'; binOp op t x' y' : Sem Value).run P w = .ok v w := by
    intro hg hb
    simp only [Sem.run_bind, eqGuard_triv hg.1 hg.2, Result.andThen_ok]
    exact hb
  unfold binV at hr
  split at hr
  · cases hx.int_inv; cases hy.int_inv
    split at hr
    · cases hr
    · rename_i hb
      simp only [Option.some.injEq] at hr; subst hr
      exact ⟨guard ⟨by simp, by simp⟩ (by simp [binOp, Op.shift, hb]), .int _ _⟩
  · cases hx.int_inv; cases hy.int_inv
    split at hr
    · cases hr
    · rename_i hb
      simp only [Option.some.injEq] at hr; subst hr
      exact ⟨guard ⟨by simp, by simp⟩ (by simp [binOp, Op.shift, hb]), .int _ _⟩
  · cases hx.int_inv; cases hy.int_inv
    split at hr
    · rename_i hk
      subst hk
      have hsh : op ≠ .shl ∧ op ≠ .shr := by
        constructor <;> (rintro rfl; simp [intBin] at hr)
      exact ⟨guard ⟨by simp, by simp⟩ (intBin_ok hsh hr), flat_rel (intBin_flat hr)⟩
    · cases hr
  · cases hx.string_inv; cases hy.string_inv
    exact ⟨guard ⟨by simp, by simp⟩ (strBin_ok hr), flat_rel (strBin_flat hr)⟩
  · split at hr
    · rename_i c hc
      simp only [Option.some.injEq] at hr; subst hr
      obtain ⟨h1, h2⟩ := eqV_ok (w := w) hx hy hc
      refine ⟨?_, .bool _⟩
      simp only [Sem.run_bind, h2 .eql o1 o2 rfl, Result.andThen_ok]
      exact run_eql (hx.shape (eqV_shape hc)) h1
    · cases hr
  · split at hr
    · rename_i c hc
      simp only [Option.some.injEq] at hr; subst hr
      obtain ⟨h1, h2⟩ := eqV_ok (w := w) hx hy hc
      refine ⟨?_, .bool _⟩
      simp only [Sem.run_bind, h2 .neq o1 o2 rfl, Result.andThen_ok]
      exact run_neq (hx.shape (eqV_shape hc)) h1
    · cases hr
  · cases hr

theorem unV_ok {op : UnOp} {x x' v : Value} (hx : VRel φ x x') (hr : unV op x = some v) : (Op.unary op x').run P w = .ok v w ∧ VRel φ v v := by
  unfold unV at hr
  split at hr
  · cases hx.bool_inv
    simp only [Option.some.injEq] at hr; subst hr
    exact ⟨by simp [Op.unary], .bool _⟩
  · cases hx.int_inv
    simp only [Option.some.injEq] at hr; subst hr
    exact ⟨by simp [Op.unary, Op.intArith], .int _ _⟩
  · cases hx.int_inv
    have hf := intBin_flat hr
    simp only [intBin, Option.some.injEq] at hr; subst hr
    exact ⟨by simp [Op.unary, Op.intBits], .int _ _⟩
  · cases hr


end Go.Abs
