/- A deterministic heap for the model, proved sound, and walks of the program over it: part 6. No condition. -/
import Derived.Test.YtkbioibemcmanaaGreatDoorAb5
import Derived.Sort.KeysCollected
import Derived.Lib.SlKeysI
import Derived.Maps.Own
import Derived.Lib.LaidTab
import Derived.Deep.DeepHandedRow
import Derived.Stop.LaidErr
import Derived.Carry
set_option linter.unusedVariables false
set_option linter.unusedSimpArgs false
set_option linter.unusedSectionVars false
section
/- Parts of tests that are run apart, in the evaluator's table; and what was reckoned once. -/
namespace Go.Abs
set_option maxRecDepth 100000
section
variable {P : Program}
theorem RunOwn.mono {f : FuncId} {a : List Value} {h : AW} {Q Q' : Value → AW → Prop} (hq : ∀ v h', Q v h' → Q' v h') (H : RunOwn P f a h Q) : RunOwn P f a h Q' := by
  obtain ⟨fn, c, e, F, h1, v, n, k, hc, hr, hx, hv, q⟩ := H
  exact ⟨fn, c, e, F, h1, v, n, k, hc, hr, hx, hv, hq _ _ q⟩
noncomputable def dOwn (G : Nat) (d : CallP → UnitP → List Value → AW → (Value → AW → Prop) → Prop) (C : CallP) (D : UnitP) (a : List Value) (h : AW) (Q : Value → AW → Prop) : Prop :=
  bCE (plainL a) (d C D a ⟨G, .nil, .nil, .nil, .nil⟩ fun v _ => bCE (plain v) (Q v h) False) False
theorem bCE_true {b : Bool} {p : Prop} (H : bCE b p False) : b = true ∧ p := by
  rw [bCE_eq] at H
  cases b with
  | true => exact ⟨rfl, H⟩
  | false => exact H.elim
theorem own_ent {G : Nat} (hG : P.globals.size = G) {f : FuncId} {d : CallP → UnitP → List Value → AW → (Value → AW → Prop) → Prop} {C : CallP} {D : UnitP} (hk : ∀ a h Q, d C D a h Q → RunOwn P f a h Q) :
    ∀ a h Q, dOwn G d C D a h Q → GoalE P f 0 0 a h Q := by
  intro a h Q H
  obtain ⟨hp, H⟩ := bCE_true H
  have H := hk _ _ _ H
  rw [← hG] at H
  show EvQ P f a h Q
  exact own_of hp (H.mono fun v _ hq => bCE_true hq)
abbrev BodyT : Type := CallP → UnitP → List Value → AW → (Value → AW → Prop) → Prop
abbrev KE (P : Program) (d : BodyT) (f u c : Nat) : Prop := ∀ C D, CLe P C → DLe P D → ∀ a h Q, d C D a h Q → GoalE P f u c a h Q
abbrev KO (P : Program) (d : BodyT) (f : Nat) : Prop := ∀ C D, CLe P C → DLe P D → ∀ a h Q, d C D a h Q → RunOwn P f a h Q
end
abbrev en {P : Program} {f u c : Nat} {d : BodyT} (k : KE P d f u c) : Ent P := ⟨f, u, c, d, k⟩
abbrev RI (h : AW) (i o : Nat) (f : Int → Prop) : Prop := rdK h i o fun v => vIntE' .i64 v f
abbrev GI (p : Option Addr) (k : Nat) (h : AW) (f : Int → Prop) : Prop := aPE p fun i o => RI h i (o + k) f
abbrev XI (p : Option Addr) (n : Int) (m k : Nat) (h : AW) (f : Int → Prop) : Prop := aPE p fun i o => nIdx n m fun j => RI h i (o + j * k) f
abbrev CI (l : List Value) (f : Int → List Value → Prop) : Prop := lCE l fun v r => vIntE' .i64 v fun x => f x r
abbrev RS (h : AW) (i o : Nat) (f : ByteArray → Prop) : Prop := rdK h i o fun v => vStrE v f
abbrev GS (p : Option Addr) (k : Nat) (h : AW) (f : ByteArray → Prop) : Prop := aPE p fun i o => RS h i (o + k) f
abbrev XS (p : Option Addr) (n : Int) (m k : Nat) (h : AW) (f : ByteArray → Prop) : Prop := aPE p fun i o => nIdx n m fun j => RS h i (o + j * k) f
abbrev CS (l : List Value) (f : ByteArray → List Value → Prop) : Prop := lCE l fun v r => vStrE v fun x => f x r
abbrev RB (h : AW) (i o : Nat) (f : Bool → Prop) : Prop := rdK h i o fun v => vBoolE v f
abbrev GB (p : Option Addr) (k : Nat) (h : AW) (f : Bool → Prop) : Prop := aPE p fun i o => RB h i (o + k) f
abbrev XB (p : Option Addr) (n : Int) (m k : Nat) (h : AW) (f : Bool → Prop) : Prop := aPE p fun i o => nIdx n m fun j => RB h i (o + j * k) f
abbrev CB (l : List Value) (f : Bool → List Value → Prop) : Prop := lCE l fun v r => vBoolE v fun x => f x r
abbrev RP (h : AW) (i o : Nat) (f : Option Addr → Prop) : Prop := rdK h i o fun v => vPtrE v f
abbrev GP (p : Option Addr) (k : Nat) (h : AW) (f : Option Addr → Prop) : Prop := aPE p fun i o => RP h i (o + k) f
abbrev XP (p : Option Addr) (n : Int) (m k : Nat) (h : AW) (f : Option Addr → Prop) : Prop := aPE p fun i o => nIdx n m fun j => RP h i (o + j * k) f
abbrev CP (l : List Value) (f : Option Addr → List Value → Prop) : Prop := lCE l fun v r => vPtrE v fun x => f x r
abbrev RL (h : AW) (i o : Nat) (f : Option Addr → Nat → Nat → Prop) : Prop := rdK h i o fun v => vSlE v f
abbrev GL (p : Option Addr) (k : Nat) (h : AW) (f : Option Addr → Nat → Nat → Prop) : Prop := aPE p fun i o => RL h i (o + k) f
abbrev XL (p : Option Addr) (n : Int) (m k : Nat) (h : AW) (f : Option Addr → Nat → Nat → Prop) : Prop := aPE p fun i o => nIdx n m fun j => RL h i (o + j * k) f
abbrev RM (h : AW) (i o : Nat) (f : Option Nat → Prop) : Prop := rdK h i o fun v => vMapE v f
abbrev GM (p : Option Addr) (k : Nat) (h : AW) (f : Option Nat → Prop) : Prop := aPE p fun i o => RM h i (o + k) f
abbrev XM (p : Option Addr) (n : Int) (m k : Nat) (h : AW) (f : Option Nat → Prop) : Prop := aPE p fun i o => nIdx n m fun j => RM h i (o + j * k) f
abbrev CM (l : List Value) (f : Option Nat → List Value → Prop) : Prop := lCE l fun v r => vMapE v fun x => f x r
abbrev WF (p : Option Addr) (k : Nat) (h : AW) (v : Value) (f : AW → Prop) : Prop := aPE p fun i o => wrK h i (o + k) v f
abbrev ad0 (h : AW) (f : AW → Prop) : Prop := addKL h [] .nil 0 f
abbrev ad1 (h : AW) (a0 : Value) (f : AW → Prop) : Prop := addKL h [a0] (.node .nil (some a0) .nil) 1 f
abbrev ad2 (h : AW) (a0 a1 : Value) (f : AW → Prop) : Prop := addKL h [a0, a1] (.node (.node .nil (some a1) .nil) (some a0) .nil) 2 f
abbrev ad3 (h : AW) (a0 a1 a2 : Value) (f : AW → Prop) : Prop := addKL h [a0, a1, a2] (.node (.node .nil (some a1) .nil) (some a0) (.node .nil (some a2) .nil)) 3 f
abbrev ad4 (h : AW) (a0 a1 a2 a3 : Value) (f : AW → Prop) : Prop := addKL h [a0, a1, a2, a3] (.node (.node (.node .nil (some a3) .nil) (some a1) .nil) (some a0) (.node .nil (some a2) .nil)) 4 f
abbrev ad5 (h : AW) (a0 a1 a2 a3 a4 : Value) (f : AW → Prop) : Prop := addKL h [a0, a1, a2, a3, a4] (.node (.node (.node .nil (some a3) .nil) (some a1) .nil) (some a0) (.node (.node .nil (some a4) .nil) (some a2) .nil)) 5 f
abbrev ad6 (h : AW) (a0 a1 a2 a3 a4 a5 : Value) (f : AW → Prop) : Prop := addKL h [a0, a1, a2, a3, a4, a5] (.node (.node (.node .nil (some a3) .nil) (some a1) (.node .nil (some a5) .nil)) (some a0) (.node (.node .nil (some a4) .nil) (some a2) .nil)) 6 f
abbrev ad10 (h : AW) (a0 a1 a2 a3 a4 a5 a6 a7 a8 a9 : Value) (f : AW → Prop) : Prop := addKL h [a0, a1, a2, a3, a4, a5, a6, a7, a8, a9] (.node (.node (.node (.node .nil (some a7) .nil) (some a3) .nil) (some a1) (.node (.node .nil (some a9) .nil) (some a5) .nil)) (some a0) (.node (.node (.node .nil (some a8) .nil) (some a4) .nil) (some a2) (.node .nil (some a6) .nil))) 10 f
abbrev ad11 (h : AW) (a0 a1 a2 a3 a4 a5 a6 a7 a8 a9 a10 : Value) (f : AW → Prop) : Prop := addKL h [a0, a1, a2, a3, a4, a5, a6, a7, a8, a9, a10] (.node (.node (.node (.node .nil (some a7) .nil) (some a3) .nil) (some a1) (.node (.node .nil (some a9) .nil) (some a5) .nil)) (some a0) (.node (.node (.node .nil (some a8) .nil) (some a4) .nil) (some a2) (.node (.node .nil (some a10) .nil) (some a6) .nil))) 11 f
abbrev ad13 (h : AW) (a0 a1 a2 a3 a4 a5 a6 a7 a8 a9 a10 a11 a12 : Value) (f : AW → Prop) : Prop := addKL h [a0, a1, a2, a3, a4, a5, a6, a7, a8, a9, a10, a11, a12] (.node (.node (.node (.node .nil (some a7) .nil) (some a3) (.node .nil (some a11) .nil)) (some a1) (.node (.node .nil (some a9) .nil) (some a5) .nil)) (some a0) (.node (.node (.node .nil (some a8) .nil) (some a4) (.node .nil (some a12) .nil)) (some a2) (.node (.node .nil (some a10) .nil) (some a6) .nil))) 13 f
abbrev ad14 (h : AW) (a0 a1 a2 a3 a4 a5 a6 a7 a8 a9 a10 a11 a12 a13 : Value) (f : AW → Prop) : Prop := addKL h [a0, a1, a2, a3, a4, a5, a6, a7, a8, a9, a10, a11, a12, a13] (.node (.node (.node (.node .nil (some a7) .nil) (some a3) (.node .nil (some a11) .nil)) (some a1) (.node (.node .nil (some a9) .nil) (some a5) (.node .nil (some a13) .nil))) (some a0) (.node (.node (.node .nil (some a8) .nil) (some a4) (.node .nil (some a12) .nil)) (some a2) (.node (.node .nil (some a10) .nil) (some a6) .nil))) 14 f
abbrev ad34 (h : AW) (a0 a1 a2 a3 a4 a5 a6 a7 a8 a9 a10 a11 a12 a13 a14 a15 a16 a17 a18 a19 a20 a21 a22 a23 a24 a25 a26 a27 a28 a29 a30 a31 a32 a33 : Value) (f : AW → Prop) : Prop := addKL h [a0, a1, a2, a3, a4, a5, a6, a7, a8, a9, a10, a11, a12, a13, a14, a15, a16, a17, a18, a19, a20, a21, a22, a23, a24, a25, a26, a27, a28, a29, a30, a31, a32, a33] (.node (.node (.node (.node (.node (.node .nil (some a31) .nil) (some a15) .nil) (some a7) (.node .nil (some a23) .nil)) (some a3) (.node (.node .nil (some a19) .nil) (some a11) (.node .nil (some a27) .nil))) (some a1) (.node (.node (.node (.node .nil (some a33) .nil) (some a17) .nil) (some a9) (.node .nil (some a25) .nil)) (some a5) (.node (.node .nil (some a21) .nil) (some a13) (.node .nil (some a29) .nil)))) (some a0) (.node (.node (.node (.node (.node .nil (some a32) .nil) (some a16) .nil) (some a8) (.node .nil (some a24) .nil)) (some a4) (.node (.node .nil (some a20) .nil) (some a12) (.node .nil (some a28) .nil))) (some a2) (.node (.node (.node .nil (some a18) .nil) (some a10) (.node .nil (some a26) .nil)) (some a6) (.node (.node .nil (some a22) .nil) (some a14) (.node .nil (some a30) .nil))))) 34 f
end Go.Abs
end

section
/- A closed test, run with some calls known. -/
namespace Go.Abs
set_option maxRecDepth 100000
variable {P : Program}
def Fact (P : Program) (f : FuncId) (args : List Value) (r : Value) : Prop := ∃ m, ∀ h, callF P m f args h = some (r, h)
theorem fact_of {f : FuncId} {args : List Value} {h0 : AW} {r : Value} (hc : (closedOf P f).isSome = true) (H : EvQ P f args h0 fun v _ => v = r) : Fact P f args r := by
  obtain ⟨v, h', ⟨n, hn⟩, rfl⟩ := H
  cases ec : closedOf P f with
  | none => rw [ec] at hc; cases hc
  | some p =>
    obtain ⟨fn, c⟩ := p
    refine ⟨n, fun h => ?_⟩
    cases n with
    | zero => simp [callF] at hn
    | succ n =>
      unfold callF at hn ⊢
      rw [(closed_has ec).2] at hn ⊢
      simp only at hn ⊢
      unfold noBodyV at hn ⊢
      rw [closed_same ec] at hn ⊢
      simp only at hn ⊢
      rw [ec] at hn ⊢
      simp only at hn ⊢
      split at hn
      · split at hn
        · simp only [Option.some.injEq, Prod.mk.injEq] at hn
          rw [hn.1]
        · cases hn
      · cases hn
def sameLV : List Value → List Value → Bool
  | [], [] => true
  | a :: l, b :: m => sameB a b && sameLV l m
  | _, _ => false
theorem sameLV_eq : ∀ {l m : List Value}, sameLV l m = true → l = m
  | [], [], _ => rfl
  | a :: l, b :: m, h => by
    simp only [sameLV, Bool.and_eq_true] at h
    rw [sameB_eq h.1, sameLV_eq h.2]
  | [], _ :: _, h => by simp [sameLV] at h
  | _ :: _, [], h => by simp [sameLV] at h
theorem Fact.evq {f : FuncId} {a : List Value} {r : Value} {h : AW} {Q : Value → AW → Prop} (H : Fact P f a r) (q : Q r h) : EvQ P f a h Q := by
  obtain ⟨m, H⟩ := H
  exact ⟨r, h, ⟨m, H h⟩, q⟩
end Go.Abs
end

section
/- The sorted keys of a map, in the evaluator's table. -/
namespace Go.Abs
set_option maxRecDepth 100000
section
variable {P : Program}
noncomputable def oSt (x : Option (Value × AW)) (f : Value → AW → Prop) : Prop := Option.rec (motive := fun _ => Prop) False (fun r => Prod.rec (motive := fun _ => Prop) (fun v h => AW.rec (motive := fun _ => Prop) (fun nx ob fa ty it => fN nx fun nx => f v ⟨nx, ob, fa, ty, it⟩) h) r) x
theorem oSt_ok {x : Option (Value × AW)} {f : Value → AW → Prop} (H : oSt x f) : ∃ v h, x = some (v, h) ∧ f v h := by
  cases x with
  | none => exact False.elim H
  | some r =>
    obtain ⟨v, nx, ob, fa, ty, it⟩ := r
    have H : fN nx (fun nx => f v ⟨nx, ob, fa, ty, it⟩) := H
    rw [fN_eq] at H
    exact ⟨v, _, rfl, H⟩
noncomputable def anyB (g : Nat) : List Nat → Bool
  | [] => false
  | x :: l => match Nat.beq x g with
    | true => true
    | false => anyB g l
theorem anyB_ok {g : Nat} : ∀ {l : List Nat}, anyB g l = true → g ∈ l
  | [], h => by simp [anyB] at h
  | x :: l, h => by
    unfold anyB at h
    split at h
    · rename_i hb; rw [Nat.eq_of_beq_eq_true hb]; exact List.mem_cons_self
    · exact List.mem_cons_of_mem _ (anyB_ok h)
noncomputable def dSort (st : Bool) (gs : List Nat) : BodyT := fun _ _ a h Q =>
  match a with
  | [.func (.func g) ⟨[]⟩ ⟨[.pointer (some ⟨p, 0, none⟩)]⟩] =>
    bCE (anyB g gs) (oQ (keysOf h p) fun ks => bCE (Nat.ble ks.length 1073741824) (oQ (sortK st ks) fun srt => oSt (sortRow h srt) Q) False) False
  | _ => False
theorem oQ_some {α : Type} {x : Option α} {f : α → Prop} (H : oQ x f) : ∃ a, x = some a ∧ f a := oB_ok (qbn (fun _ => id) H)
theorem edges_fn {f : Nat} {g : Fn} {x y : Array Value} {h : AW} : edgesV P f [.func g x y] h = none := by
  unfold edgesV
  split
  · split <;> rfl
  · rfl
theorem sort_ent {f : Nat} {st : Bool} {gs : List Nat} (hb : bodyOf P f = none) (hc : closedOf P f = none) (hs : sortOf P f = some st) (hC : ∀ g, g ∈ gs → SortC P st f g) (C : CallP) (D : UnitP) :
    ∀ a h Q, dSort st gs C D a h Q → GoalE P f 0 0 a h Q := by
  intro a h Q H
  unfold dSort at H
  split at H
  · rename_i g p
    obtain ⟨hg, H⟩ := bCE_true H
    obtain ⟨ks, hks, H⟩ := oQ_some H
    obtain ⟨hl, H⟩ := bCE_true H
    obtain ⟨srt, hsrt, H⟩ := oQ_some H
    obtain ⟨v, h', hr, q⟩ := oSt_ok H
    show EvQ P f _ h Q
    refine ⟨v, h', ⟨1, ?_⟩, q⟩
    unfold callF
    rw [hb]
    simp only
    unfold noBodyV
    rw [show sameV P f [.func (.func g) ⟨[]⟩ ⟨[.pointer (some ⟨p, 0, none⟩)]⟩] h = none from rfl]
    simp only
    rw [hc]
    simp only
    rw [edges_fn]
    simp only
    unfold sortV
    simp only
    rw [hks, hs]
    simp only
    rw [hl, hsrt]
    simp only
    rw [if_pos (hC g (anyB_ok hg)), hr]
  · exact H.elim
noncomputable def dEdge : BodyT := fun _ _ a h Q => oSt (edgeRow a h) Q
theorem edge_same {f : Nat} {p : Option Addr} {h : AW} (hs : edgeOf P f = true) : sameV P f [.pointer p] h = none := by
  unfold sameV
  simp only
  have : sameFn P f = false := by
    unfold edgeOf at hs
    unfold sameFn
    cases hf : P.funcs[f]? with
    | none => rfl
    | some fn =>
      rw [hf] at hs
      simp only [Bool.and_eq_true] at hs
      cases hb : fn.body with
      | none => rw [hb] at hs; cases hs.1.1
      | some c => simp [hb]
  rw [this]
theorem edge_ent {f : Nat} (hb : bodyOf P f = none) (hc : closedOf P f = none) (hs : edgeOf P f = true) (hC : EdgesC P f) (C : CallP) (D : UnitP) :
    ∀ a h Q, dEdge C D a h Q → GoalE P f 0 0 a h Q := by
  intro a h Q H
  obtain ⟨v, h', hr, q⟩ := oSt_ok H
  show EvQ P f a h Q
  have hsm : sameV P f a h = none := by
    unfold edgeRow at hr
    split at hr
    · exact edge_same hs
    · exact edge_same hs
    · cases hr
  refine ⟨v, h', ⟨1, ?_⟩, q⟩
  unfold callF
  rw [hb]
  simp only
  unfold noBodyV
  rw [hsm]
  simp only
  rw [hc]
  simp only
  unfold edgesV
  rw [hs]
  simp only
  rw [if_pos hC, hr]
end
end Go.Abs
end

section
/- The sorted keys of a map, out of the library's contracts. -/
namespace Go.Abs
open Go.Maps Go.MapKept Go.RowKit Go.WideShapes
open Go.WideElems (Fit rd rg rd_mk rg_of)
open Go.Proofs (encStr)
theorem leBy_iff : ∀ {l m : List UInt8}, leBy l m = true ↔ l ≤ m
  | [], m => by simp [leBy]
  | a :: l, [] => by simp [leBy]
  | a :: l, b :: m => by
    unfold leBy
    rw [List.cons_le_cons_iff]
    cases hb : Nat.beq a.toNat b.toNat with
    | true =>
      have e : a = b := UInt8.toNat_inj.1 (Nat.eq_of_beq_eq_true hb)
      subst e
      simp only [true_and, leBy_iff]
      constructor
      · exact .inr
      · rintro (h | h)
        · exact absurd h (by simp)
        · exact h
    | false =>
      have e : a ≠ b := fun e => by subst e; rw [Nat.beq_refl] at hb; cases hb
      simp only [e, false_and, or_false]
      rw [Nat.ble_eq, UInt8.lt_iff_toNat_lt]
      have : a.toNat ≠ b.toNat := fun h => e (UInt8.toNat_inj.1 h)
      omega
theorem leBy_false {l m : List UInt8} (h : leBy l m = false) : leBy m l = true := by
  rw [leBy_iff]
  rcases List.le_total m l with h1 | h1
  · exact h1
  · rw [leBy_iff.2 h1] at h; cases h
theorem insS_perm (s : ByteArray) : ∀ l : List ByteArray, (insS s l).Perm (s :: l)
  | [] => List.Perm.refl _
  | y :: l => by
    unfold insS
    split
    · exact List.Perm.refl _
    · exact ((insS_perm s l).cons y).trans (List.Perm.swap s y l)
theorem sortS_perm : ∀ l : List ByteArray, (sortS l).Perm l
  | [] => List.Perm.refl _
  | s :: l => (insS_perm s _).trans ((sortS_perm l).cons s)
abbrev leA (a b : ByteArray) : Prop := leBy a.data.toList b.data.toList = true
theorem leA_trans {a b c : ByteArray} (h : leA a b) (k : leA b c) : leA a c := leBy_iff.2 (List.le_trans (leBy_iff.1 h) (leBy_iff.1 k))
theorem insS_sorted (s : ByteArray) : ∀ {l : List ByteArray}, l.Pairwise leA → (insS s l).Pairwise leA
  | [], _ => by simp [insS]
  | y :: l, h => by
    unfold insS
    obtain ⟨h1, h2⟩ := List.pairwise_cons.1 h
    split
    · rename_i hs
      exact List.pairwise_cons.2 ⟨fun z hz => (List.mem_cons.1 hz).elim (fun e => e ▸ hs) fun hz => leA_trans hs (h1 z hz), h⟩
    · rename_i hs
      refine List.pairwise_cons.2 ⟨fun z hz => ?_, insS_sorted s h2⟩
      rcases List.mem_cons.1 ((insS_perm s l).mem_iff.1 hz) with rfl | hz
      · exact leBy_false hs
      · exact h1 z hz
theorem sortS_sorted : ∀ l : List ByteArray, (sortS l).Pairwise leA
  | [] => List.Pairwise.nil
  | s :: l => insS_sorted s (sortS_sorted l)
theorem sortS_eq (l : List ByteArray) : (sortS l).map (·.data.toList) = (l.map (·.data.toList)).mergeSort leB := by
  have tr : ∀ a b c : List UInt8, leB a b = true → leB b c = true → leB a c = true := fun a b c h1 h2 => by simp only [leB, decide_eq_true_eq] at *; exact List.le_trans h1 h2
  have to : ∀ a b : List UInt8, (leB a b || leB b a) = true := fun a b => by simp only [leB, Bool.or_eq_true, decide_eq_true_eq]; exact List.le_total a b
  refine List.Perm.eq_of_pairwise (le := fun a b => leB a b = true) (fun a b _ _ h1 h2 => ?_) ?_ (List.pairwise_mergeSort tr to _) (((sortS_perm l).map _).trans (List.mergeSort_perm _ leB).symm)
  · simp only [leB, decide_eq_true_eq] at h1 h2
    exact List.le_antisymm h1 h2
  · refine List.pairwise_map.2 ((sortS_sorted l).imp fun {a b} h => ?_)
    simp only [leB, decide_eq_true_eq]
    exact leBy_iff.1 h
theorem strs_keys : ∀ {ks : List Value} {ss : List ByteArray}, strsOf ks = some ss → ks = ss.map .string ∧ ∀ s, s ∈ ss → s.size ≤ 1073741824
  | [], ss, h => by simp only [strsOf, Option.some.injEq] at h; subst h; exact ⟨rfl, by simp⟩
  | v :: l, ss, h => by
    unfold strsOf at h
    split at h
    · rename_i e; cases e
    · rename_i s l2 e
      cases e
      split at h
      · rename_i r hb hr
        cases h
        obtain ⟨h1, h2⟩ := strs_keys hr
        refine ⟨by rw [h1]; rfl, fun x hx => ?_⟩
        rcases List.mem_cons.1 hx with rfl | hx
        · exact Nat.le_of_ble_eq_true hb
        · exact h2 x hx
      · cases h
    · cases h
abbrev R0 : Value → Option (DataW Unit × List MemPlace) := fun _ => some (.nil, [])
theorem own_str {P : Program} {k : TypeId} {w : World} {b : Nat} {es : Array MapEntry} {clock : Nat} {ss : List ByteArray} (hk : P.underlying k = some .string) (hb : w.heap[b]? = some (.map es clock)) (hst : Stamped es clock)
    (hks : es.toList.map (·.key) = ss.map .string) (hn : ss.length ≤ 1073741824) (hss : ∀ s, s ∈ ss → s.size ≤ 1073741824) :
    ∃ D0 : DataW Unit, w.ownsMap P k R0 b es.size D0 ∧ (strKeys D0).Perm (ss.map (·.data.toList)) ∧ Maps.size D0 = ss.length := by
  have hlen : es.size = ss.length := by
    have := congrArg List.length hks
    simpa using this
  have hkey : ∀ x ∈ es.toList, ∃ s : ByteArray, x.key = .string s ∧ s.size ≤ 1073741824 := fun x hx => by
    have : x.key ∈ es.toList.map (·.key) := List.mem_map.2 ⟨x, hx, rfl⟩
    rw [hks] at this
    obtain ⟨s, hs, e⟩ := List.mem_map.1 this
    exact ⟨s, e.symm, hss s hs⟩
  have hrd : ∀ x ∈ es.toList, ∀ s : ByteArray, x.key = .string s → rd P k R0 x = some (.string s.data.toList, .nil) := fun x hx s e => by
    obtain ⟨s', e', hs'⟩ := hkey x hx
    rw [e] at e'; cases e'
    have hle : s.size ≤ maxLen := Nat.le_trans hs' (by decide)
    simp [rd, keyOf, hk, mapKey, e, hle]
  have F : Fit P k R0 es clock := ⟨by rw [hlen]; exact Nat.le_trans hn (by decide), hst, fun x hx => by
    obtain ⟨s, e, _⟩ := hkey x hx
    exact ⟨_, hrd x hx s e⟩⟩
  refine ⟨.map ((es.toList.map (rg P k R0)).foldr DataW.insert []), ⟨es, clock, hb, F, Nat.le_refl _, rfl⟩, ?_, ?_⟩
  · have h1 : (strKeys (.map ((es.toList.map (rg P k R0)).foldr DataW.insert []))).Perm ((es.toList.map (rg P k R0)).map fun p => strOf p.1) := (sorted_perm _).map _
    refine h1.trans ?_
    have h2 : (es.toList.map (rg P k R0)).map (fun p => strOf p.1) = (es.toList.map (·.key)).map fun v => match v with | .string s => s.data.toList | _ => [] := by
      rw [List.map_map, List.map_map]
      refine List.map_congr_left fun x hx => ?_
      obtain ⟨s, e, _⟩ := hkey x hx
      simp only [Function.comp, rg_of (hrd x hx s e), strOf, e]
    rw [h2, hks, List.map_map]
    exact List.Perm.of_eq (List.map_congr_left fun s _ => rfl)
  · show (((es.toList.map (rg P k R0)).foldr DataW.insert [])).length = ss.length
    rw [length_sorted]
    simp [hlen]
theorem sortC_str {P : Program} {f g k E : Nat} (hk : P.underlying k = some .string)
    (hs : ∀ (w : World) (p b nn : Nat) (D0 : DataW Unit), w.cell? ⟨p, 0, none⟩ = some (.map (some b)) → w.ownsMap P k R0 b nn D0 → Maps.size D0 ≤ maxLen → Maps.size D0 * 16 ≤ 140737488355328 →
      Calls P f #[.func (.func g) #[] #[.pointer (some ⟨p, 0, none⟩)]] w fun e w' => ∃ (v : Value) (ss : List (List UInt8)), e = .returned v ∧ ss.Perm (strKeys D0) ∧ w'.ownsRow w.heap.size E 1 v ss.length ((ss.mergeSort leB).map encStr) ∧ (v = .slice none 0 0 ↔ ss = []) ∧ Below w.heap.size w w')
    (hn : ∀ (w : World) (p : Nat), w.cell? ⟨p, 0, none⟩ = some (.map none) →
      Calls P f #[.func (.func g) #[] #[.pointer (some ⟨p, 0, none⟩)]] w fun e w' => ∃ (v : Value) (ss : List (List UInt8)), e = .returned v ∧ ss = [] ∧ w'.ownsRow w.heap.size E 1 v ss.length ((ss.mergeSort leB).map encStr) ∧ (v = .slice none 0 0 ↔ ss = []) ∧ Below w.heap.size w w') : SortC P true f g := by
  intro w p mb ks srt hc hka hlen hsrt
  unfold sortK at hsrt
  simp only at hsrt
  split at hsrt
  rotate_left
  · cases hsrt
  rename_i strs hstrs
  cases hsrt
  obtain ⟨rfl, hsz⟩ := strs_keys hstrs
  cases mb with
  | none =>
    have e : strs = [] := by simpa [keysAt] using hka
    subst e
    refine (hn w p hc).mono ?_
    rintro e w' ⟨v, ss, rfl, hss, _, hv, hb⟩
    exact ⟨hb, .inl ⟨rfl, by rw [hv.2 hss]⟩⟩
  | some b =>
    obtain ⟨es, clock, hb, hst, hks⟩ := hka
    simp only [List.length_map] at hlen
    obtain ⟨D0, hown, hperm, hsize⟩ := own_str hk hb hst hks hlen hsz
    refine (hs w p b _ D0 hc hown (by rw [hsize]; exact Nat.le_trans hlen (by decide)) (by rw [hsize]; omega)).mono ?_
    rintro e w' ⟨v, ss, rfl, hp, hrow, hv, hbl⟩
    refine ⟨hbl, ?_⟩
    have hp2 : ss.Perm (strs.map (·.data.toList)) := hp.trans hperm
    have hl : ss.length = strs.length := by have := hp2.length_eq; simpa using this
    have hxs : (ss.mergeSort leB).map encStr = (sortS strs).map .string := by
      rw [mergeSort_of_perm hp2, ← sortS_eq, List.map_map]
      exact List.map_congr_left fun s _ => by simp [encStr]
    have hsl : ((sortS strs).map Value.string).length = ss.length := by
      rw [List.length_map, (sortS_perm strs).length_eq, hl]
    rw [hxs] at hrow
    obtain ⟨_, hcase⟩ := hrow
    by_cases h0 : ss = []
    · left
      have : strs = [] := by
        apply List.eq_nil_of_length_eq_zero
        rw [← hl, h0]; rfl
      subst this
      exact ⟨rfl, by rw [hv.2 h0]⟩
    · right
      rcases hcase with ⟨hv0, _⟩ | ⟨gb, cap, cur, rfl, hge, hblk, hnc, _, hcs, htk⟩
      · exact absurd (hv.1 hv0) h0
      · refine ⟨fun h => h0 ?_, gb, cap, cur, E, by rw [hsl], hge, hblk, by rw [hsl]; exact hnc, by rw [hcs, Nat.mul_one], ?_⟩
        · apply List.eq_nil_of_length_eq_zero
          rw [← hsl, h]; rfl
        · rw [hsl]; rw [Nat.mul_one] at htk; exact htk
end Go.Abs
end

section
/- New maps of a region whose order is open: their numbers are kept free, they are laid at the end. -/
open Go.RowKit
namespace Go.Abs
variable {B0 : Zn} {w0 : World} {φ ψ : Map} {h h' : AW} {w : World} {P : Program}
def Blank (h : AW) (i : Nat) : Prop := h.objs.get? i = none ∧ h.tys.get? i = none ∧ h.its.get? i ≠ some 1 ∧ h.its.get? i ≠ some 2
theorem Blank.set {r : Nat} {es es' : List (Value × Value)} (ho : h.objs.get? r = some (.map es)) {i : Nat} (hb : Blank h i) : Blank { h with objs := h.objs.set r (.map es') } i := by
  have hne : i ≠ r := by rintro rfl; rw [hb.1] at ho; cases ho
  refine ⟨?_, hb.2.1, hb.2.2⟩
  simp only []
  rw [T.get?_set_ne _ _ hne]
  exact hb.1
theorem HRel.blank (H : HRel B0 w0 φ h w) {i : Nat} (hi : h.next ≤ i) : Blank h i := by
  refine ⟨H.objFree hi, ?_, fun e => ?_, fun e => ?_⟩
  · cases e : h.tys.get? i with
    | none => rfl
    | some t => have := (H.ty.1 i t e).1; omega
  · have := (H.ty.2.1 i e).1; omega
  · have := (H.ty.2.2 i e).1; omega
theorem mapUpdV_form {t : TypeId} {m k v : Value} (e : mapUpdV P h t m k v = some h') : ∃ r es es', h.objs.get? r = some (.map es) ∧ h' = { h with objs := h.objs.set r (.map es') } := by
  unfold mapUpdV at e
  split at e
  · rename_i ti r ht
    split at e
    · split at e
      · split at e
        · rename_i es hk ho
          split at e
          · rename_i es2 hu
            simp only [Option.some.injEq] at e
            exact ⟨r, es, es2, ho, e.symm⟩
          · cases e
        · cases e
      · cases e
    · cases e
  · cases e
theorem mapPutV_form {m v : Value} {z : Int} (e : mapPutV h m z v = some h') : ∃ r es es', h.objs.get? r = some (.map es) ∧ h' = { h with objs := h.objs.set r (.map es') } := by
  unfold mapPutV at e
  split at e
  · split at e
    · rename_i es ho _
      split at e
      · rename_i es2 hu
        simp only [Option.some.injEq] at e
        exact ⟨_, es, es2, ho, e.symm⟩
      · cases e
    · cases e
  · cases e
theorem actM_ok (H : HRel B0 w0 φ h w) {F : Fr} {ρ : Operand → Value} {o : Oper} {v : Value} (hm : actM o.op = true) (hv : Rev φ F ρ o.op.operands.toList) (hr : opA P F h o.op = some (v, h')) :
    ∃ v' w', Gives (execOp ρ o) P w v' w' ∧ VRel φ v v' ∧ HRel B0 w0 φ h' w' ∧ ∃ r es es', h.objs.get? r = some (.map es) ∧ h' = { h with objs := h.objs.set r (.map es') } := by
  obtain ⟨dst, op, type, pos, after, guard⟩ := o
  simp only at hm hv hr
  cases op <;> simp only [actM] at hm <;> first | cases hm | skip
  · rename_i t m k x
    simp only [opA] at hr
    split at hr
    · rename_i h2 hs
      simp only [Option.some.injEq, Prod.mk.injEq] at hr
      obtain ⟨rfl, rfl⟩ := hr
      obtain ⟨w', h1, h3⟩ := mapUpd_ok (P := P) H (hv m (by simp [Op.operands])) (hv k (by simp [Op.operands])) (hv x (by simp [Op.operands])) hs
      exact ⟨undef, w', .inr ⟨rfl, by simp only [execOp, Sem.run_bind, h1, Result.andThen_ok, Sem.run_pure]⟩, VRel.undef, h3, mapUpdV_form hs⟩
    · cases hr
  · rename_i t m k x
    simp only [opA] at hr
    split at hr
    · rename_i h2 hs
      simp only [Option.some.injEq, Prod.mk.injEq] at hr
      obtain ⟨rfl, rfl⟩ := hr
      obtain ⟨w', h1, h3⟩ := mapUpd_ok (P := P) H (hv m (by simp [Op.operands])) (hv k (by simp [Op.operands])) (hv x (by simp [Op.operands])) hs
      exact ⟨undef, w', .inr ⟨rfl, by simp only [execOp, Sem.run_bind, h1, Result.andThen_ok, Sem.run_pure]⟩, VRel.undef, h3, mapUpdV_form hs⟩
    · cases hr
  · rename_i t m k
    simp only [opA] at hr
    split at hr
    · rename_i old j hl hx
      split at hr
      · rename_i h2 hs
        simp only [Option.some.injEq, Prod.mk.injEq] at hr
        obtain ⟨rfl, rfl⟩ := hr
        obtain ⟨o', w1, h1, h2, h3⟩ := mapEntry_ok (P := P) H (hv m (by simp [Op.operands])) (hv k (by simp [Op.operands])) hl hx hs
        exact ⟨.tuple #[o', goInt j], w1, .inl (by simp only [execOp, Sem.run_bind, h1, Result.andThen_ok, Sem.run_pure]), VRel.tuple' (L2.cons h2 (L2.cons (.int _ _) L2.nil)), h3, mapUpdV_form hs⟩
      · cases hr
    · cases hr
  · rename_i t m s x
    simp only [opA] at hr
    split at hr
    · rename_i z hz
      split at hr
      · rename_i h2 hs
        simp only [Option.some.injEq, Prod.mk.injEq] at hr
        obtain ⟨rfl, rfl⟩ := hr
        have hsr := hv s (by simp [Op.operands])
        rw [hz] at hsr
        obtain ⟨w', h1, h3⟩ := entryStore_ok (P := P) (t := t) H (hv m (by simp [Op.operands])) (hv x (by simp [Op.operands])) hs
        exact ⟨undef, w', .inr ⟨rfl, by simp only [execOp, Sem.run_bind, hsr.int_inv, h1, Result.andThen_ok, Sem.run_pure]⟩, VRel.undef, h3, mapPutV_form hs⟩
      · cases hr
    · cases hr
theorem HRel.name (H : HRel B0 w0 φ h w) {i : Nat} (hi : i < h.next) (hf : φ i = none) (hb : Blank h i) (b : Nat) : φ.le (φ.add i (b, 0, 0)) ∧ HRel B0 w0 (φ.add i (b, 0, 0)) h w := by
  have hle : φ.le (φ.add i (b, 0, 0)) := Map.le_add hf
  have hno : ∀ j o, h.objs.get? j = some o → j ≠ i := fun j o ho e => by subst e; rw [hb.1] at ho; cases ho
  refine ⟨hle, H.base, H.below, fun j x hx => ?_, fun j o x ho hx => ?_, fun j o ho => ?_, H.fam, fun j1 j2 o1 o2 x σ κ σ' κ' hne g1 g2 l1 l2 p1 p2 => ?_, fun j t e => ?_, fun j e => ?_, fun j e => ?_⟩
  · unfold Map.add at hx
    split at hx
    · rename_i e; subst e; exact hi
    · exact H.dom j x hx
  · rw [Map.add_ne _ _ (hno j o ho)] at hx
    exact H.lto j o x ho hx
  · obtain ⟨x, σ, κ, hp, hr⟩ := H.obj j o ho
    exact ⟨x, σ, κ, hle _ _ hp, hr.mono hle⟩
  · rw [Map.add_ne _ _ (hno j1 o1 g1)] at p1
    rw [Map.add_ne _ _ (hno j2 o2 g2)] at p2
    exact H.sep j1 j2 o1 o2 x σ κ σ' κ' hne g1 g2 l1 l2 p1 p2
  · have hj : j ≠ i := by rintro rfl; rw [hb.2.1] at e; cases e
    refine ⟨(H.ty.1 j t e).1, fun x σ κ hx => (H.ty.1 j t e).2 x σ κ ?_⟩
    rwa [Map.add_ne _ _ hj] at hx
  · have hj : j ≠ i := by rintro rfl; exact hb.2.2.1 e
    refine ⟨(H.ty.2.1 j e).1, fun x σ κ hx => (H.ty.2.1 j e).2 x σ κ ?_⟩
    rwa [Map.add_ne _ _ hj] at hx
  · have hj : j ≠ i := by rintro rfl; exact hb.2.2.2 e
    refine ⟨(H.ty.2.2 j e).1, fun x σ κ hx => (H.ty.2.2 j e).2 x σ κ ?_⟩
    rwa [Map.add_ne _ _ hj] at hx
theorem orel_zone {B1 B2 : Zn} (hZ : ∀ k, B2.Z k → B1.Z k) (hR : ∀ k, B1.R k → B2.R k) {fams : T Fam} {x σ κ : Nat} {o : AObj} (ho : ORel φ fams B1 w x σ κ o) : ORel φ fams B2 w x σ κ o := by
  cases o with
  | var cs n ro =>
    obtain ⟨a1, a2, a3, a4, a5⟩ := ho
    exact ⟨a1, a2, a3, fun e => ⟨fun hz => (a4 e).1 (hZ _ hz), (a4 e).2⟩, fun e => (a5 e).imp (hR _) id⟩
  | row f g lo hi sz cs =>
    intro fm h2 h3
    obtain ⟨a1, a2⟩ := ho fm h2 h3
    exact ⟨fun hz => a1 (hZ _ hz), a2⟩
  | map es =>
    obtain ⟨a1, a2, a3, a4⟩ := ho
    exact ⟨a1, a2, fun hz => a3 (hZ _ hz), a4⟩
theorem HRel.zone {B1 : Zn} {w1 : World} (H : HRel B1 w1 φ h w) (hb0 : ∀ k, B0.Z k → k < w0.heap.size) (hbl : BelowZ B0 w0 w1) (hZ : ∀ k, B0.Z k → B1.Z k) (hR : ∀ k, B1.R k → B0.R k) : HRel B0 w0 φ h w :=
  ⟨hb0, hbl.trans ⟨H.below.os, H.below.tape, H.below.output, H.below.size, fun k hk => H.below.block k (hZ k hk)⟩, H.dom, H.lto, fun i o ho => let ⟨b, σ, κ, hp, hr⟩ := H.obj i o ho; ⟨b, σ, κ, hp, orel_zone hZ hR hr⟩, H.fam, H.sep, H.ty⟩
theorem HRel.lay {B1 B2 : Zn} {w1 : World} (H : HRel B1 w1 φ h w) (hZ : ∀ k, B2.Z k → B1.Z k) (hR : ∀ k, B1.R k → B2.R k) {b : Nat} (hb : B1.Z b) (hbz : ¬ B2.Z b) {i : Nat} (hi : i < h.next) (hp : φ i = some (b, 0, 0)) (hbk : Blank h i) (hblk : w1.heap[b]? = some (.map #[] 0)) :
    HRel B2 w1 φ (h.layMap i) w := by
  have hw : w.heap[b]? = some (.map #[] 0) := (H.below.block b hb).trans hblk
  have away : ∀ {x σ κ : Nat} {o : AObj}, ORel φ h.fams B1 w x σ κ o → live h.fams o → x ≠ b := by
    rintro x σ κ o ho li rfl
    cases o with
    | var cs n ro => exact (ho.2.2.2.1 li).1 hb
    | row f g lo hi sz cs =>
      obtain ⟨fm, l1, l2⟩ := li
      exact (ho fm l1 l2).1 hb
    | map es => exact ho.2.2.1 hb
  have get : ∀ j o, (h.layMap i).objs.get? j = some o → (j = i ∧ o = .map []) ∨ (j ≠ i ∧ h.objs.get? j = some o) := fun j o e => by
    simp only [AW.layMap, T.get?_set] at e
    split at e
    · rename_i e2; exact .inl ⟨e2, (Option.some.inj e).symm⟩
    · rename_i e2; exact .inr ⟨e2, e⟩
  refine ⟨fun k hk => H.base k (hZ k hk), ⟨H.below.os, H.below.tape, H.below.output, H.below.size, fun k hk => H.below.block k (hZ k hk)⟩, H.dom, fun j o x ho hx => ?_, fun j o ho => ?_, fun j f g lo hi sz cs hj => ?_, fun j1 j2 o1 o2 x σ1 κ1 σ2 κ2 hne g1 g2 l1 l2 p1 p2 => ?_, H.ty.1, fun j e => ?_, fun j e => ?_⟩
  · rcases get j o ho with ⟨rfl, rfl⟩ | ⟨hj, ho⟩
    · rw [hp] at hx; cases hx
      exact (Array.getElem?_eq_some_iff.1 hw).1
    · exact H.lto j o x ho hx
  · rcases get j o ho with ⟨rfl, rfl⟩ | ⟨hj, ho⟩
    · exact ⟨b, 0, 0, hp, rfl, rfl, hbz, #[], 0, hw, L2.nil, MapKept.stamped_empty 0⟩
    · obtain ⟨x, σ, κ, hx, hr⟩ := H.obj j o ho
      exact ⟨x, σ, κ, hx, orel_zone hZ hR hr⟩
  · rcases get _ _ hj with ⟨rfl, e⟩ | ⟨_, hj⟩
    · cases e
    · exact H.fam j _ _ _ _ _ _ hj
  · rcases get j1 o1 g1 with ⟨rfl, rfl⟩ | ⟨e1, g1'⟩
    · rcases get _ _ g2 with ⟨rfl, rfl⟩ | ⟨e2, g2⟩
      · exact absurd rfl hne
      · obtain ⟨x2, s2, k2, hx2, hr2⟩ := H.obj _ _ g2
        rw [p2] at hx2; cases hx2
        rw [hp] at p1; cases p1
        exact absurd rfl (away hr2 l2)
    · rcases get _ _ g2 with ⟨rfl, rfl⟩ | ⟨e2, g2⟩
      · obtain ⟨x2, s2, k2, hx2, hr2⟩ := H.obj j1 o1 g1'
        rw [p1] at hx2; cases hx2
        rw [hp] at p2; cases p2
        exact absurd rfl (away hr2 l1)
      · exact H.sep j1 j2 o1 o2 x σ1 κ1 σ2 κ2 hne g1' g2 l1 l2 p1 p2
  · simp only [AW.layMap, T.get?_set] at e
    split at e
    · cases e
    · exact H.ty.2.1 j e
  · simp only [AW.layMap, T.get?_set] at e
    split at e
    · rename_i e2
      subst e2
      refine ⟨hi, fun x σ κ hx => ?_⟩
      rw [hp] at hx; cases hx
      exact ⟨#[], 0, hw, rfl, fun j x e => by simp at e⟩
    · exact H.ty.2.2 j e
theorem HRel.lays {w1 : World} {base : Nat} {pend : Nat → Option Nat} (hb0 : ∀ k, B0.Z k → k < w0.heap.size) (hbl : BelowZ B0 w0 w1) (inj : ∀ d d' b, pend d = some b → pend d' = some b → d = d') :
    ∀ (L : List Nat) (h : AW) (B1 : Zn), L.Nodup → (∀ d, d ∈ L → base + d < h.next ∧ Blank h (base + d) ∧ ∃ b, pend d = some b ∧ ¬ B0.Z b ∧ w1.heap[b]? = some (.map #[] 0) ∧ φ (base + d) = some (b, 0, 0)) →
      (∀ k, B1.R k ↔ B0.R k) → (∀ k, B1.Z k ↔ B0.Z k ∨ ∃ d, d ∈ L ∧ pend d = some k) → HRel B1 w1 φ h w → HRel B0 w0 φ (h.layMaps base L) w
  | [], h, B1, _, _, hR, hZ, H => H.zone hb0 hbl (fun k hk => (hZ k).2 (.inl hk)) (fun k hk => (hR k).1 hk)
  | d :: L, h, B1, nd, hL, hR, hZ, H => by
    obtain ⟨h1, h2, b, h3, h4, h5, h6⟩ := hL d (by simp)
    rw [List.nodup_cons] at nd
    have hsub : ∀ k, B0.R k → B0.Z k ∨ ∃ d, d ∈ L ∧ pend d = some k := fun k hk => .inl (B0.sub k hk)
    have H1 := H.lay (B2 := ⟨B0.R, fun k => B0.Z k ∨ ∃ d, d ∈ L ∧ pend d = some k, hsub⟩) (fun k hk => (hZ k).2 (hk.imp id fun ⟨e, a, b⟩ => ⟨e, List.mem_cons_of_mem _ a, b⟩)) (fun k hk => (hR k).1 hk) ((hZ b).2 (.inr ⟨d, by simp, h3⟩))
      (fun hk => by
        rcases hk with hk | ⟨e, a, c⟩
        · exact h4 hk
        · have := inj d e b h3 c
          subst this
          exact nd.1 a) h1 h6 h2 h5
    refine HRel.lays hb0 hbl inj L (h.layMap (base + d)) ⟨B0.R, fun k => B0.Z k ∨ ∃ d, d ∈ L ∧ pend d = some k, hsub⟩ nd.2 (fun e he => ?_) (fun k => Iff.rfl) (fun k => Iff.rfl) H1
    obtain ⟨g1, g2, g3⟩ := hL e (List.mem_cons_of_mem _ he)
    have hne : base + e ≠ base + d := fun x => by
      have : e = d := by omega
      subst this
      exact nd.1 he
    refine ⟨g1, ⟨?_, g2.2.1, ?_, ?_⟩, g3⟩
    · simp only [AW.layMap]; rw [T.get?_set_ne _ _ hne]; exact g2.1
    · simp only [AW.layMap]; rw [T.get?_set_ne _ _ hne]; exact g2.2.2.1
    · simp only [AW.layMap]; rw [T.get?_set_ne _ _ hne]; exact g2.2.2.2
end Go.Abs
end

section
/- A region whose order is open, joined. -/
open Go.RowKit
namespace Go.Abs
variable {B0 : Zn} {w0 : World} {φ ψ : Map} {h h' h0 : AW} {w : World} {P : Program}
structure Inv (P : Program) (B0 : Zn) (w0 : World) (ops : Array Oper) (tr : List St) (h0 : AW) (F0 : Fr) (ψ : Map) (listed : Array Bool) (k : Nat) (a : Act) (w : World) : Prop where
  size : listed.size = ops.size
  down : ∀ (j : Nat) (oj : Oper), ops.toList[j]? = some oj → listed[j]? = some true → ∀ e, e ∈ oj.after.toList → Region.binds .any e = true → listed[e.on]? = some true
  kle : k ≤ (acts 0 tr).length
  kth : ∀ (m i : Nat) (x : AW), (acts 0 tr)[m]? = some (i, x) → (listed[i]? = some true ↔ m < k)
  heap : HRel B0 w0 ψ (hAt h0 (acts 0 tr) k) w
  glob : Glob P ψ
  n : a.tmps.size = F0.n
  vals : ∀ (j : Nat) (s : St), tr[j]? = some s → listed[j]? = some true → ∀ t : Nat, s.o.dst = some t → VRel ψ s.v (a.eval (.tmp t))
  rest : ∀ t : Nat, (∀ (j : Nat) (s : St), tr[j]? = some s → listed[j]? = some true → s.o.dst ≠ some t) → VRel ψ (F0.ev (.tmp t)) (a.eval (.tmp t))
theorem eval_put {a : Act} {d : Option Tmp} {v : Value} (hd : ∀ x : Nat, d = some x → x < a.tmps.size) (t : Nat) : (a.put d v).eval (.tmp t) = if d = some t then v else a.eval (.tmp t) := by
  cases d with
  | none => simp [Act.put]
  | some d =>
    have hlt := hd d rfl
    by_cases htd : d = t
    · subst htd
      rw [if_pos rfl]
      simp only [Act.put, Act.eval]
      rw [Array.getD_eq_getD_getElem?, Array.getElem?_setIfInBounds_self, if_pos hlt]
      rfl
    · rw [if_neg (fun e => htd (Option.some.inj e))]
      simp only [Act.put, Act.eval]
      rw [Array.getD_eq_getD_getElem?, Array.getElem?_setIfInBounds_ne htd, ← Array.getD_eq_getD_getElem?]
theorem lst_set {listed : Array Bool} {j : Nat} (hj : j < listed.size) (i : Nat) : (listed.setIfInBounds j true)[i]? = some true ↔ i = j ∨ listed[i]? = some true := by
  by_cases h : i = j
  · subst h; simp [hj]
  · rw [Array.getElem?_setIfInBounds_ne (Ne.symm h)]; simp [h]
theorem bef_listed {ops : List Oper} (S : Static ops) {listed : Array Bool} (hdown : ∀ (j : Nat) (oj : Oper), ops[j]? = some oj → listed[j]? = some true → ∀ e, e ∈ oj.after.toList → Region.binds .any e = true → listed[e.on]? = some true) :
    ∀ (n j : Nat), j < n → ∀ oj, ops[j]? = some oj → (∀ e, e ∈ oj.after.toList → Region.binds .any e = true → listed[e.on]? = some true) → ∀ i, bef (masks ops []) i j = true → listed[i]? = some true := by
  intro n
  induction n with
  | zero => intro j hj; omega
  | succ n ih =>
    intro j hj oj hoj he i hb
    obtain ⟨e, hm, hbi, hc⟩ := S.mask j oj i hoj hb
    rcases hc with rfl | hc
    · exact he e hm hbi
    · have hlt := S.edge j oj hoj e hm hbi
      have hlen : j < ops.length := by
        rcases Nat.lt_or_ge j ops.length with hx | hx
        · exact hx
        · rw [List.getElem?_eq_none hx] at hoj; cases hoj
      obtain ⟨oe, hoe⟩ : ∃ oe, ops[e.on]? = some oe := ⟨_, List.getElem?_eq_getElem (by omega)⟩
      exact ih e.on (by omega) oe hoe (hdown e.on oe hoe (he e hm hbi)) i hc
structure Trace (P : Program) (vm : Option Nat) (call : FuncId → List Value → AW → Option (Value × AW)) (ops : Array Oper) (tr : List St) (F0 F' : Fr) (h0 h' : AW) : Prop where
  len : tr.length = ops.toList.length
  at_ : ∀ (j : Nat) (s : St), tr[j]? = some s → ops.toList[j]? = some s.o ∧ StSpec P vm call ops.toList s ∧ s.F.n = F0.n
  n : F'.n = F0.n
  fr : ∀ (j : Nat) (s : St), tr[j]? = some s → ∀ t : Nat, (∃ (i : Nat) (s' : St), i < j ∧ tr[i]? = some s' ∧ s'.o.dst = some t ∧ s.F.ev (.tmp t) = s'.v) ∨ ((∀ (i : Nat) (s' : St), i < j → tr[i]? = some s' → s'.o.dst ≠ some t) ∧ s.F.ev (.tmp t) = F0.ev (.tmp t))
  fin : ∀ t : Nat, (∃ (i : Nat) (s' : St), tr[i]? = some s' ∧ s'.o.dst = some t ∧ F'.ev (.tmp t) = s'.v) ∨ ((∀ (i : Nat) (s' : St), tr[i]? = some s' → s'.o.dst ≠ some t) ∧ F'.ev (.tmp t) = F0.ev (.tmp t))
  hp : ∀ (j : Nat) (s : St), tr[j]? = some s → s.h = hAt h0 (acts 0 tr) (acts 0 (tr.take j)).length ∧ (∀ h2, s.act = some h2 → (acts 0 tr)[(acts 0 (tr.take j)).length]? = some (j, h2))
  last : h' = hAt h0 (acts 0 tr) (acts 0 tr).length
theorem trace_of {vm : Option Nat} {call : FuncId → List Value → AW → Option (Value × AW)} {ops : Array Oper} {F F' : Fr} {tr : List St} (ht : traceOps P vm call ops.toList ops.toList F h = some (tr, F', h')) : Trace P vm call ops tr F F' h h' := by
  obtain ⟨q1, q2, q3, q4, q5, q6, q7⟩ := trace_spec ops.toList F h tr F' h' ht
  refine ⟨q1, q2, q3, fun j s hj t => ?_, fun t => ?_, fun j s hj => ?_, q7 0⟩
  · rcases q4 j s hj t with ⟨i, s', a, b, c, d, _⟩ | b
    · exact .inl ⟨i, s', a, b, c, d⟩
    · exact .inr b
  · rcases q5 t with ⟨i, s', b, c, d, _⟩ | b
    · exact .inl ⟨i, s', b, c, d⟩
    · exact .inr b
  · have := q6 j s hj 0
    exact ⟨this.1, fun h2 e => by have := this.2 h2 e; rwa [Nat.zero_add] at this⟩
variable {call : FuncId → List Value → AW → Option (Value × AW)} {ops : Array Oper} {tr : List St} {F0 F' : Fr}
theorem Inv.step {vm : Option Nat} {B1 : Zn} {w1 : World} {listed : Array Bool} {k : Nat} {a : Act} (S : Static ops.toList) (T : Trace P vm call ops tr F0 F' h0 h') (I : Inv P B1 w1 ops tr h0 F0 ψ listed k a w) {j : Nat} {s : St} (hj : tr[j]? = some s)
    (hre : ∀ e, e ∈ s.o.after.toList → Region.binds .any e = true → listed[e.on]? = some true) (hnl : listed[j]? = some false) {ψ' : Map} (hle : ψ.le ψ') {v' : Value} (hv : VRel ψ' s.v v') {k' : Nat}
    (hk : (s.act = none ∧ k' = k) ∨ (∃ x, (acts 0 tr)[k]? = some (j, x) ∧ k' = k + 1)) {w' : World} (H' : HRel B0 w0 ψ' (hAt h0 (acts 0 tr) k') w') :
    Inv P B0 w0 ops tr h0 F0 ψ' (listed.setIfInBounds j true) k' (a.put s.o.dst v') w' := by
  obtain ⟨hoj, hspec, hsn⟩ := T.at_ j s hj
  have hjs : j < listed.size := by
    rcases Nat.lt_or_ge j listed.size with hx | hx
    · exact hx
    · rw [Array.getElem?_eq_none hx] at hnl; cases hnl
  have hroom : ∀ x : Nat, s.o.dst = some x → x < a.tmps.size := fun x hx => by have := hspec.room x hx; rw [hsn] at this; rw [I.n]; exact this
  refine ⟨by simpa using I.size, ?_, ?_, ?_, H', I.glob.mono hle, ?_, ?_, ?_⟩
  · intro i oi hi hl e he hb
    rw [lst_set hjs] at hl ⊢
    rcases hl with rfl | hl
    · rw [hoj] at hi; cases hi
      exact .inr (hre e he hb)
    · exact .inr (I.down i oi hi hl e he hb)
  · rcases hk with ⟨_, rfl⟩ | ⟨x, hx, rfl⟩
    · exact I.kle
    · rcases Nat.lt_or_ge k (acts 0 tr).length with hy | hy
      · exact hy
      · rw [List.getElem?_eq_none hy] at hx; cases hx
  · intro m i x hm
    rw [lst_set hjs]
    have hI := I.kth m i x hm
    rcases hk with ⟨hn, rfl⟩ | ⟨y, hy, rfl⟩
    · have hne : i ≠ j := by
        rintro rfl
        obtain ⟨_, ⟨s', a1, a2⟩, _⟩ := acts_at tr 0 m i x hm
        rw [Nat.sub_zero, hj] at a1
        cases a1
        rw [hn] at a2; cases a2
      simp only [hne, false_or]
      exact hI
    · by_cases hij : i = j
      · subst hij
        have e1 := (acts_at tr 0 m i x hm).2.2
        have e2 := (acts_at tr 0 k i y hy).2.2
        have : m = k := e1.trans e2.symm
        subst this
        simp
      · simp only [hij, false_or, hI]
        constructor
        · intro hx; omega
        · intro hx
          rcases Nat.lt_or_ge m k with hz | hz
          · exact hz
          · have : m = k := by omega
            subst this
            rw [hm] at hy; cases hy; exact absurd rfl hij
  · have : (a.put s.o.dst v').tmps.size = a.tmps.size := by cases s.o.dst <;> simp [Act.put]
    rw [this]; exact I.n
  · intro i si hi hl t ht
    rw [eval_put hroom]
    rw [lst_set hjs] at hl
    by_cases hij : i = j
    · subst hij
      rw [hj] at hi; cases hi
      rw [if_pos ht]; exact hv
    · have hl' : listed[i]? = some true := by simpa [hij] using hl
      have hne := (S.pair i j si.o s.o (T.at_ i si hi).1 hoj hij t ht).1
      rw [if_neg hne]
      exact (I.vals i si hi hl' t ht).mono hle
  · intro t ht
    rw [eval_put hroom]
    have hnj : s.o.dst ≠ some t := ht j s hj (by rw [lst_set hjs]; exact .inl rfl)
    rw [if_neg hnj]
    exact (I.rest t fun i si hi hl => ht i si hi (by rw [lst_set hjs]; exact .inr hl)).mono hle
theorem Inv.reads {vm : Option Nat} {listed : Array Bool} {k : Nat} {a : Act} (S : Static ops.toList) (T : Trace P vm call ops tr F0 F' h0 h') (I : Inv P B0 w0 ops tr h0 F0 ψ listed k a w) {j : Nat} {s : St} (hj : tr[j]? = some s)
    (hre : ∀ e, e ∈ s.o.after.toList → Region.binds .any e = true → listed[e.on]? = some true) (hnl : listed[j]? = some false) :
    ∀ t, t ∈ readsOf ops.toList s.o → VRel ψ (s.F.ev (.tmp t)) (a.eval (.tmp t)) := by
  intro t ht
  obtain ⟨hoj, hspec, hsn⟩ := T.at_ j s hj
  rcases T.fr j s hj t with ⟨i, si, a1, a2, a3, a4⟩ | ⟨b1, b2⟩
  · have hb := ((S.pair i j si.o s.o (T.at_ i si a2).1 hoj (by omega) t a3).2 ht).1 a1
    have hl := bef_listed S I.down (j + 1) j (by omega) s.o hoj hre i hb
    rw [a4]
    exact I.vals i si a2 hl t a3
  · rw [b2]
    refine I.rest t fun i si hi hl hd => ?_
    rcases Nat.lt_or_ge i j with hlt | hge
    · exact b1 i si hlt hi hd
    · have hne : i ≠ j := by rintro rfl; rw [hnl] at hl; cases hl
      have hb := ((S.pair i j si.o s.o (T.at_ i si hi).1 hoj hne t hd).2 ht).2 (by omega)
      have := bef_listed S I.down (i + 1) i (by omega) si.o (T.at_ i si hi).1 (I.down i si.o (T.at_ i si hi).1 hl) j hb
      rw [hnl] at this; cases this
theorem ready_spec {listed : Array Bool} (hsz : listed.size = ops.size) {i : Nat} (hi : i ∈ Region.ready .any ops listed) :
    listed[i]? = some false ∧ ∃ o, ops[i]? = some o ∧ ∀ e, e ∈ o.after.toList → Region.binds .any e = true → listed[e.on]? = some true := by
  unfold Region.ready at hi
  simp only [List.mem_filter, List.mem_range, Bool.and_eq_true, Bool.not_eq_true'] at hi
  obtain ⟨h1, h2, h3⟩ := hi
  rw [Array.getD_eq_getD_getElem?, Array.getElem?_eq_getElem (by omega)] at h2
  refine ⟨by rw [Array.getElem?_eq_getElem (by omega)]; exact congrArg some h2, ?_⟩
  rw [Array.getElem?_eq_getElem h1] at h3
  simp only [Option.map_some, Option.getD_some] at h3
  refine ⟨ops[i], Array.getElem?_eq_getElem h1, fun e he hb => ?_⟩
  rw [Array.all_eq_true'] at h3
  have := h3 e (by simpa using he)
  rw [hb] at this
  simp only [Bool.not_true, Bool.false_or] at this
  rw [Array.getD_eq_getD_getElem?] at this
  cases hx : listed[e.on]? with
  | none => rw [hx] at this; cases this
  | some b => rw [hx] at this; simp only [Option.getD_some] at this; rw [this]
theorem all_listed {listed : Array Bool} (hsz : listed.size = ops.size) (S : Static ops.toList) (hr : Region.ready .any ops listed = []) : ∀ (n i : Nat), i < n → i < ops.size → listed[i]? = some true := by
  intro n
  induction n with
  | zero => intro i hi; omega
  | succ n ih =>
    intro i hi hlt
    cases hl : listed[i]? with
    | none => rw [Array.getElem?_eq_getElem (by omega)] at hl; cases hl
    | some b =>
      cases b with
      | true => rfl
      | false =>
        exfalso
        have hmem : i ∈ Region.ready .any ops listed := by
          unfold Region.ready
          simp only [List.mem_filter, List.mem_range, Bool.and_eq_true, Bool.not_eq_true']
          refine ⟨hlt, ?_, ?_⟩
          · rw [Array.getD_eq_getD_getElem?, hl]; rfl
          · rw [Array.getElem?_eq_getElem hlt]
            simp only [Option.map_some, Option.getD_some]
            rw [Array.all_eq_true']
            intro e he
            cases hb : Region.binds .any e with
            | false => rfl
            | true =>
              have hlt' := S.edge i ops[i] (by rw [Array.getElem?_toList]; exact Array.getElem?_eq_getElem hlt) e (by simpa using he) hb
              rw [Array.getD_eq_getD_getElem?, ih e.on (by omega) (by omega)]; rfl
        rw [hr] at hmem; cases hmem
theorem drawn_any (hcall : CallOk P B0 w0 call) (hok : opersOk P.globals.size ops.toList = true) (S : Static ops.toList) (T : Trace P none call ops tr F0 F' h0 h') (hch : chainOk (masks ops.toList []) (acts 0 tr) = true) (hst : stsOk P (masks ops.toList []) h0 (acts 0 tr) 0 0 tr = true) {Q : Exit → Act → World → Prop} {φ : Map} {a0 : Act}
    (hQ : ∀ ψ a' w', φ.le ψ → FRel ψ F' a' → HRel B0 w0 ψ h' w' → a'.defers = a0.defers → Q .normal a' w') :
    ∀ (fuel : Nat) (listed : Array Bool) (k : Nat) (ψ : Map) (a : Act) (w : World), Inv P B0 w0 ops tr h0 F0 ψ listed k a w → unl listed ≤ fuel → φ.le ψ → a.defers = a0.defers → wpAny P .any ops Q fuel listed a w := by
  have hdef : ∀ (a : Act) d v, (a.put d v).defers = a.defers := fun a d v => by cases d <;> rfl
  have fin : ∀ (listed : Array Bool) (k : Nat) (ψ : Map) (a : Act) (w : World), Inv P B0 w0 ops tr h0 F0 ψ listed k a w → φ.le ψ → a.defers = a0.defers → Region.ready .any ops listed = [] → Q .normal a w := by
    intro listed k ψ a w I hle hd hr
    have hall : ∀ i, i < ops.size → listed[i]? = some true := fun i hi => all_listed I.size S hr (i + 1) i (by omega) hi
    have hlt : ∀ (i : Nat) (s : St), tr[i]? = some s → i < ops.size := fun i s hi => by
      have : i < tr.length := by
        rcases Nat.lt_or_ge i tr.length with hx | hx
        · exact hx
        · rw [List.getElem?_eq_none hx] at hi; cases hi
      rw [T.len] at this; simpa using this
    refine hQ ψ a w hle ⟨by rw [I.n, T.n], fun t => ?_⟩ ?_ hd
    · rcases T.fin t with ⟨i, si, a1, a2, a3⟩ | ⟨b1, b2⟩
      · rw [a3]; exact I.vals i si a1 (hall i (hlt i si a1)) t a2
      · rw [b2]; exact I.rest t fun i si hi _ => b1 i si hi
    · have hk : k = (acts 0 tr).length := by
        rcases Nat.lt_or_ge k (acts 0 tr).length with hx | hx
        · obtain ⟨⟨i, x⟩, hix⟩ : ∃ p, (acts 0 tr)[k]? = some p := ⟨_, List.getElem?_eq_getElem hx⟩
          obtain ⟨_, ⟨s, a1, _⟩, _⟩ := acts_at tr 0 k i x hix
          have := (I.kth k i x hix).1 (hall i (hlt i s (by simpa using a1)))
          omega
        · exact Nat.le_antisymm I.kle hx
      rw [T.last, ← hk]
      exact I.heap
  intro fuel
  induction fuel with
  | zero =>
    intro listed k ψ a w I hu hle hd
    have hr : Region.ready .any ops listed = [] := by
      cases hx : Region.ready .any ops listed with
      | nil => rfl
      | cons i l =>
        have := (ready_spec I.size (i := i) (by rw [hx]; simp)).1
        have := unl_set this
        omega
    exact ⟨hr, fin listed k ψ a w I hle hd hr⟩
  | succ fuel ih =>
    intro listed k ψ a w I hu hle hd
    refine ⟨fin listed k ψ a w I hle hd, fun j hj => ?_⟩
    obtain ⟨hnl, o, ho, hre⟩ := ready_spec I.size hj
    have huu := unl_set hnl
    have hol : ops.toList[j]? = some o := by simpa using ho
    obtain ⟨s, hs⟩ : ∃ s, tr[j]? = some s := by
      have : j < tr.length := by
        rw [T.len]
        rcases Nat.lt_or_ge j ops.toList.length with hx | hx
        · exact hx
        · rw [List.getElem?_eq_none hx] at hol; cases hol
      exact ⟨_, List.getElem?_eq_getElem this⟩
    obtain ⟨hoj, hspec, hsn⟩ := T.at_ j s hs
    rw [hol] at hoj
    obtain rfl := Option.some.inj hoj
    have hreads := I.reads S T hs hre hnl
    have hmem : s.o ∈ ops.toList := List.mem_of_getElem? hol
    have hops := opersOk_spec hok s.o hmem
    have hrev : Rev ψ s.F a.eval s.o.op.operands.toList := rev_of hops I.glob fun t ht => hreads t (List.mem_append_left _ ht)
    have hwant := guard_ok' (ops := ops) (o := s.o) (a := a) (fun g want og d h1 h2 h3 => hreads d (by
      unfold readsOf
      refine List.mem_append_right _ ?_
      rw [h1]
      simp only [h2, h3, List.mem_singleton])) hspec.guard
    have next : ∀ (ψ' : Map) (v' : Value) (w' : World) (k' : Nat), ψ.le ψ' → VRel ψ' s.v v' → ((s.act = none ∧ k' = k) ∨ (∃ x, (acts 0 tr)[k]? = some (j, x) ∧ k' = k + 1)) → HRel B0 w0 ψ' (hAt h0 (acts 0 tr) k') w' →
        wpAny P .any ops Q fuel (listed.setIfInBounds j true) (a.put s.o.dst v') w' := fun ψ' v' w' k' hle' hv hk H' =>
      ih _ k' ψ' _ w' (I.step S T hs hre hnl hle' hv hk H') (by omega) (Map.le_trans hle hle') ((hdef _ _ _).trans hd)
    unfold wpOp
    rw [ho]
    simp only
    rw [hwant]
    cases hw : s.want with
    | false =>
      rw [if_neg (by simp)]
      obtain ⟨e1, e2⟩ := hspec.off hw
      exact next ψ undef w k ψ.le_refl (by rw [e2]; exact VRel.undef) (.inl ⟨e1, rfl⟩) I.heap
    | true =>
      rw [if_pos rfl]
      refine .inl ?_
      have hbl : ∀ i, bef (masks ops.toList []) i j = true → listed[i]? = some true := fun i hb => bef_listed S I.down (j + 1) j (by omega) s.o hol hre i hb
      cases ha : s.act with
      | none =>
        have hq : opQ P s.F s.h s.o.op = some s.v := hspec.quiet hw ha
        have same : ∃ v, opQ P s.F (hAt h0 (acts 0 tr) k) s.o.op = some v ∧ v = s.v := by
          cases hlk : looks s.o.op with
          | false => exact ⟨s.v, by rw [opQ_still hlk]; exact hq, rfl⟩
          | true =>
            have hst' := sts_spec hst j s hs
            rw [Nat.zero_add, Nat.zero_add] at hst'
            unfold stOk at hst'
            rw [ha, hw, hlk] at hst'
            simp only [Bool.not_true, Bool.false_or] at hst'
            have hchk := chk_spec (acts 0 tr) 0 h0 k hst' I.kle
              (fun m p hm hp => by
                cases hb : bef (masks ops.toList []) j p.1 with
                | false => rfl
                | true =>
                  obtain ⟨i, x⟩ := p
                  have hl := (I.kth m i x hp).2 hm
                  obtain ⟨_, ⟨si, a1, _⟩, _⟩ := acts_at tr 0 m i x hp
                  rw [Nat.sub_zero] at a1
                  have hoi := (T.at_ i si a1).1
                  have := bef_listed S I.down (i + 1) i (by omega) si.o hoi (I.down i si.o hoi hl) j hb
                  rw [hnl] at this; cases this)
              (fun m p hm hp => by
                cases hb : bef (masks ops.toList []) p.1 j with
                | false => rfl
                | true =>
                  obtain ⟨i, x⟩ := p
                  have := (I.kth m i x hp).1 (hbl i hb)
                  omega)
            rcases hchk with e | e
            · have := (T.hp j s hs).1
              rw [Nat.zero_add] at e
              rw [e, ← this]
              exact ⟨s.v, hq, rfl⟩
            · split at e
              · rename_i v hv
                exact ⟨v, hv, beqV_ok _ _ _ e⟩
              · cases e
        obtain ⟨v, hv, rfl⟩ := same
        obtain ⟨v', hrun, hvr⟩ := opQ_ok (P := P) I.heap hrev hv
        unfold Oper.wp
        rw [hrun, Oper.upon_value]
        exact next ψ v' w k ψ.le_refl hvr (.inl ⟨ha, rfl⟩) I.heap
      | some h2 =>
        obtain ⟨_, hact⟩ := hspec.turn h2 ha
        obtain ⟨hsh, hm⟩ := T.hp j s hs
        have hm := hm h2 ha
        generalize (acts 0 (tr.take j)).length = m at hsh hm
        have hmk : m = k := by
          have hnot : ¬ m < k := fun hlt => by
            have := (I.kth m j h2 hm).2 hlt
            rw [hnl] at this; cases this
          rcases Nat.lt_or_ge k m with hlt | hge
          · exfalso
            obtain ⟨m', rfl⟩ : ∃ m', m = m' + 1 := ⟨m - 1, by omega⟩
            obtain ⟨⟨i, x⟩, hix⟩ : ∃ p, (acts 0 tr)[m']? = some p := by
              have : m' < (acts 0 tr).length := by
                rcases Nat.lt_or_ge m' (acts 0 tr).length with hx | hx
                · exact hx
                · rw [List.getElem?_eq_none (by omega)] at hm; cases hm
              exact ⟨_, List.getElem?_eq_getElem this⟩
            have := (I.kth m' i x hix).1 (hbl i (chain_spec hch m' (i, x) (j, h2) hix hm))
            omega
          · omega
        subst hmk
        rw [hsh] at hact
        refine act_ok hcall hrev I.heap I.glob hact _ Q fun ψ' v' w' hle' hv H' => ?_
        refine next ψ' v' w' (m + 1) hle' hv (.inr ⟨h2, hm, rfl⟩) ?_
        rw [hAt_succ _ _ _ _ hm]
        exact H'
theorem exec_one (hcall : CallOk P B0 w0 call) (hok : opersOk P.globals.size ops.toList = true) (S : Static ops.toList) (T : Trace P none call ops tr F0 F' h0 h') (hst : stsOk P (masks ops.toList []) h0 (acts 0 tr) 0 0 tr = true)
    {listed : Array Bool} {k : Nat} {a0 a : Act} (I : Inv P B0 w0 ops tr h0 F0 ψ listed k a0 w) {j : Nat} {s : St} (hs : tr[j]? = some s) (hre : ∀ e, e ∈ s.o.after.toList → Region.binds .any e = true → listed[e.on]? = some true) (hnl : listed[j]? = some false)
    (hea : ∀ t, t ∈ readsOf ops.toList s.o → a.eval (.tmp t) = a0.eval (.tmp t)) (hact : ∀ h2, s.act = some h2 → ∃ x, (acts 0 tr)[k]? = some (j, x)) {K : Act → World → Prop} {Q : Exit → Act → World → Prop}
    (next : ∀ ψ' v' w' k', ψ.le ψ' → VRel ψ' s.v v' → ((s.act = none ∧ k' = k) ∨ (∃ x, (acts 0 tr)[k]? = some (j, x) ∧ k' = k + 1)) → HRel B0 w0 ψ' (hAt h0 (acts 0 tr) k') w' → K (a.put s.o.dst v') w') : wpOp P ops Q j K a w := by
  obtain ⟨hol, hspec, hsn⟩ := T.at_ j s hs
  have ho : ops[j]? = some s.o := by simpa using hol
  have hreads0 := I.reads S T hs hre hnl
  have hreads : ∀ t, t ∈ readsOf ops.toList s.o → VRel ψ (s.F.ev (.tmp t)) (a.eval (.tmp t)) := fun t ht => by rw [hea t ht]; exact hreads0 t ht
  have hmem : s.o ∈ ops.toList := List.mem_of_getElem? hol
  have hops := opersOk_spec hok s.o hmem
  have hrev : Rev ψ s.F a.eval s.o.op.operands.toList := rev_of hops I.glob fun t ht => hreads t (List.mem_append_left _ ht)
  have hwant := guard_ok' (ops := ops) (o := s.o) (a := a) (fun g want og d h1 h2 h3 => hreads d (by
    unfold readsOf
    refine List.mem_append_right _ ?_
    rw [h1]
    simp only [h2, h3, List.mem_singleton])) hspec.guard
  unfold wpOp
  rw [ho]
  simp only
  rw [hwant]
  cases hw : s.want with
  | false =>
    rw [if_neg (by simp)]
    obtain ⟨e1, e2⟩ := hspec.off hw
    exact next ψ undef w k ψ.le_refl (by rw [e2]; exact VRel.undef) (.inl ⟨e1, rfl⟩) I.heap
  | true =>
    rw [if_pos rfl]
    refine .inl ?_
    have hbl : ∀ i, bef (masks ops.toList []) i j = true → listed[i]? = some true := fun i hb => bef_listed S I.down (j + 1) j (by omega) s.o hol hre i hb
    cases ha : s.act with
    | none =>
      have hq : opQ P s.F s.h s.o.op = some s.v := hspec.quiet hw ha
      have same : ∃ v, opQ P s.F (hAt h0 (acts 0 tr) k) s.o.op = some v ∧ v = s.v := by
        cases hlk : looks s.o.op with
        | false => exact ⟨s.v, by rw [opQ_still hlk]; exact hq, rfl⟩
        | true =>
          have hst' := sts_spec hst j s hs
          rw [Nat.zero_add, Nat.zero_add] at hst'
          unfold stOk at hst'
          rw [ha, hw, hlk] at hst'
          simp only [Bool.not_true, Bool.false_or] at hst'
          have hchk := chk_spec (acts 0 tr) 0 h0 k hst' I.kle
            (fun m p hm hp => by
              cases hb : bef (masks ops.toList []) j p.1 with
              | false => rfl
              | true =>
                obtain ⟨i, x⟩ := p
                have hl := (I.kth m i x hp).2 hm
                obtain ⟨_, ⟨si, a1, _⟩, _⟩ := acts_at tr 0 m i x hp
                rw [Nat.sub_zero] at a1
                have hoi := (T.at_ i si a1).1
                have := bef_listed S I.down (i + 1) i (by omega) si.o hoi (I.down i si.o hoi hl) j hb
                rw [hnl] at this; cases this)
            (fun m p hm hp => by
              cases hb : bef (masks ops.toList []) p.1 j with
              | false => rfl
              | true =>
                obtain ⟨i, x⟩ := p
                have := (I.kth m i x hp).1 (hbl i hb)
                omega)
          rcases hchk with e | e
          · have := (T.hp j s hs).1
            rw [Nat.zero_add] at e
            rw [e, ← this]
            exact ⟨s.v, hq, rfl⟩
          · split at e
            · rename_i v hv
              exact ⟨v, hv, beqV_ok _ _ _ e⟩
            · cases e
      obtain ⟨v, hv, hvs⟩ := same
      obtain ⟨v', hrun, hvr⟩ := opQ_ok (P := P) I.heap hrev hv
      unfold Oper.wp
      rw [hrun, Oper.upon_value]
      exact next ψ v' w k ψ.le_refl (by rw [← hvs]; exact hvr) (.inl ⟨ha, rfl⟩) I.heap
    | some h2 =>
      obtain ⟨_, hact2⟩ := hspec.turn h2 ha
      obtain ⟨hsh, hm⟩ := T.hp j s hs
      have hm := hm h2 ha
      generalize (acts 0 (tr.take j)).length = m at hsh hm
      obtain ⟨x, hx⟩ := hact h2 ha
      have hmk : m = k := (acts_at tr 0 m j h2 hm).2.2.trans (acts_at tr 0 k j x hx).2.2.symm
      subst hmk
      rw [hsh] at hact2
      refine act_ok hcall hrev I.heap I.glob hact2 _ Q fun ψ' v' w' hle' hv H' => ?_
      refine next ψ' v' w' (m + 1) hle' hv (.inr ⟨h2, hm, rfl⟩) ?_
      rw [hAt_succ _ _ _ _ hm]
      exact H'
theorem befAll_spec {M : List Nat} {j : Nat} : ∀ {l : List Nat}, befAll M l j = true → ∀ i, i ∈ l → bef M i j = true
  | x :: l, h, i, hi => by
    simp only [befAll, Bool.and_eq_true] at h
    rcases List.mem_cons.1 hi with rfl | hm
    · exact h.1
    · exact befAll_spec h.2 i hm
theorem pairsBut_spec {M : List Nat} {z : Nat} : ∀ {As : List (Nat × AW)} {pre : List Nat}, pairsBut M z pre As = true → (∀ (m : Nat) (p : Nat × AW), As[m]? = some p → p.1 ≠ z → ∀ i, i ∈ pre → bef M i p.1 = true) ∧
    ∀ (m1 m2 : Nat) (p1 p2 : Nat × AW), m1 < m2 → As[m1]? = some p1 → As[m2]? = some p2 → p2.1 ≠ z → bef M p1.1 p2.1 = true
  | [], pre, h => ⟨fun m p hp => by simp at hp, fun m1 m2 p1 p2 _ h1 => by simp at h1⟩
  | (j, x) :: l, pre, h => by
    simp only [pairsBut, Bool.and_eq_true, Bool.or_eq_true] at h
    obtain ⟨a, b⟩ := pairsBut_spec h.2
    refine ⟨fun m p hp hz i hi => ?_, fun m1 m2 p1 p2 hlt h1 h2 hz => ?_⟩
    · cases m with
      | zero =>
        simp at hp; subst hp
        rcases h.1 with e | e
        · exact absurd (beq_true e) hz
        · exact befAll_spec e i hi
      | succ m => exact a m p (by simpa using hp) hz i (List.mem_cons_of_mem _ hi)
    · cases m2 with
      | zero => omega
      | succ m2 =>
        have h2 : l[m2]? = some p2 := by simpa using h2
        cases m1 with
        | zero =>
          simp at h1; subst h1
          exact a m2 p2 h2 hz j (by simp)
        | succ m1 => exact b m1 m2 p1 p2 (by omega) (by simpa using h1) h2 hz
theorem preOf_spec {z : Nat} : ∀ {As : List (Nat × AW)} {m m' : Nat} {p : Nat × AW}, m' < m → As[m']? = some p → (∀ (q : Nat) (r : Nat × AW), q < m → As[q]? = some r → r.1 ≠ z) → p.1 ∈ preOf z As
  | [], m, m', p, _, h, _ => by simp at h
  | (i, x) :: l, m, m', p, hlt, h, hn => by
    have h0 : i ≠ z := hn 0 (i, x) (by omega) rfl
    have hb : Nat.beq i z = false := by
      cases hb : Nat.beq i z with
      | false => rfl
      | true => exact absurd (beq_true hb) h0
    simp only [preOf, hb]
    cases m' with
    | zero => simp at h; subst h; exact List.mem_cons_self ..
    | succ m' =>
      refine List.mem_cons_of_mem _ (preOf_spec (m := m - 1) (m' := m') (by omega) (by simpa using h) fun q r hq hr => hn (q + 1) r (by omega) (by simpa using hr))
theorem edgeTo_spec {z : Nat} : ∀ {l : List Edge} {e : Edge}, e ∈ l → e.on = z → edgeTo z l = true
  | x :: l, e, h, hz => by
    simp only [edgeTo, Bool.or_eq_true]
    rcases List.mem_cons.1 h with rfl | hm
    · left; rw [hz]; exact Nat.beq_refl z
    · exact .inr (edgeTo_spec hm hz)
theorem depsOk_spec {M : List Nat} {z : Nat} {pre : List Nat} : ∀ {l : List Oper} {k : Nat}, depsOk M z pre k l = true → ∀ (j : Nat) (o : Oper), l[j]? = some o → (bef M z (k + j) = true ∨ ∃ e, e ∈ o.after.toList ∧ e.on = z) → ∀ i, i ∈ pre → bef M i (k + j) = true
  | [], k, h, j, o, hj => by simp at hj
  | x :: l, k, h, j, o, hj => by
    simp only [depsOk, Bool.and_eq_true] at h
    cases j with
    | zero =>
      simp at hj; subst hj
      intro hd i hi
      have h1 := h.1
      have : (bef M z k || edgeTo z x.after.toList) = true := by
        rw [Bool.or_eq_true]
        rcases hd with e | ⟨e, a, b⟩
        · exact .inl e
        · exact .inr (edgeTo_spec a b)
      rw [this] at h1
      exact befAll_spec (by simpa using h1) i hi
    | succ j =>
      simp at hj
      have := depsOk_spec h.2 j o hj
      rwa [show k + 1 + j = k + (j + 1) from by omega] at this
structure Free (ops : Array Oper) (tr : List St) (z m : Nat) (sz : St) (dz : Nat) (x : AW) : Prop where
  at_ : tr[z]? = some sz
  ix : (acts 0 tr)[m]? = some (z, x)
  dst : sz.o.dst = some dz
  new : (∃ t, sz.o.op = .alloc t) ∨ ∃ t len parts, sz.o.op = .buildSlice t len parts
  pairs : ∀ (m1 m2 : Nat) (p1 p2 : Nat × AW), m1 < m2 → (acts 0 tr)[m1]? = some p1 → (acts 0 tr)[m2]? = some p2 → p2.1 ≠ z → bef (masks ops.toList []) p1.1 p2.1 = true
  deps : ∀ (j : Nat) (o : Oper), ops.toList[j]? = some o → (bef (masks ops.toList []) z j = true ∨ ∃ e, e ∈ o.after.toList ∧ e.on = z) → ∀ (m1 : Nat) (p : Nat × AW), m1 < m → (acts 0 tr)[m1]? = some p → bef (masks ops.toList []) p.1 j = true
theorem free_of (T : Trace P none call ops tr F0 F' h0 h') : ∀ {l : List (Nat × AW)}, (∀ p, p ∈ l → p ∈ acts 0 tr) → freeAny ops.toList (masks ops.toList []) (acts 0 tr) l = true → ∃ z m sz dz x, Free ops tr z m sz dz x
  | [], _, h => by simp [freeAny] at h
  | (z, x) :: l, hm, h => by
    simp only [freeAny, Bool.or_eq_true] at h
    rcases h with h | h
    · obtain ⟨m, hmm⟩ := List.mem_iff_getElem?.1 (hm (z, x) (by simp))
      obtain ⟨_, ⟨sz, h1, h2⟩, _⟩ := acts_at tr 0 m z x hmm
      rw [Nat.sub_zero] at h1
      have hoz := (T.at_ z sz h1).1
      unfold freeOne at h
      simp only [Bool.and_eq_true] at h
      obtain ⟨⟨e1, e2⟩, e3⟩ := h
      have hn : (∃ dz, sz.o.dst = some dz) ∧ ((∃ t, sz.o.op = .alloc t) ∨ ∃ t len parts, sz.o.op = .buildSlice t len parts) := by
        unfold isNew at e1
        rw [hoz] at e1
        simp only at e1
        split at e1
        · rename_i t ht; exact ⟨Option.isSome_iff_exists.1 e1, .inl ⟨t, ht⟩⟩
        · rename_i t len parts ht; exact ⟨Option.isSome_iff_exists.1 e1, .inr ⟨t, len, parts, ht⟩⟩
        · cases e1
      obtain ⟨⟨dz, hd⟩, hnew⟩ := hn
      refine ⟨z, m, sz, dz, x, h1, hmm, hd, hnew, (pairsBut_spec e2).2, fun j o hj hd m1 p hlt hp => ?_⟩
      have := depsOk_spec (k := 0) e3 j o hj (by rwa [Nat.zero_add]) p.1 (preOf_spec hlt hp fun q r hq hr e => ?_)
      · rwa [Nat.zero_add] at this
      · obtain ⟨i, y⟩ := r
        simp only at e
        subst e
        have := (acts_at tr 0 q i y hr).2.2.trans (acts_at tr 0 m i x hmm).2.2.symm
        omega
    · exact free_of T (fun p hp => hm p (List.mem_cons_of_mem _ hp)) h
def Early (P : Program) (B0 : Zn) (w0 : World) (ops : Array Oper) (tr : List St) (h0 : AW) (F0 : Fr) (z m : Nat) (sz : St) (dz : Nat) (ψ : Map) (listed : Array Bool) (k : Nat) (a : Act) (w : World) : Prop :=
  ∃ B1 w1 l0 a0 v', listed = l0.setIfInBounds z true ∧ l0[z]? = some false ∧ a = a0.put (some dz) v' ∧ Inv P B1 w1 ops tr h0 F0 ψ l0 k a0 w ∧ k < m ∧ (∀ e, e ∈ sz.o.after.toList → Region.binds .any e = true → l0[e.on]? = some true) ∧
    ∀ ψ' W, ψ.le ψ' → HRel B1 w1 ψ' (hAt h0 (acts 0 tr) m) W → ∃ ψ'', ψ'.le ψ'' ∧ VRel ψ'' sz.v v' ∧ HRel B0 w0 ψ'' (hAt h0 (acts 0 tr) (m + 1)) W
theorem drawn_free (hcall : ∀ B w, CallOk P B w call) (hok : opersOk P.globals.size ops.toList = true) (S : Static ops.toList) (T : Trace P none call ops tr F0 F' h0 h') {z m : Nat} {sz : St} {dz : Nat} {xz : AW} (Z : Free ops tr z m sz dz xz)
    (hst : stsOk P (masks ops.toList []) h0 (acts 0 tr) 0 0 tr = true) {Q : Exit → Act → World → Prop} {φ : Map} {a0 : Act}
    (hQ : ∀ ψ a' w', φ.le ψ → FRel ψ F' a' → HRel B0 w0 ψ h' w' → a'.defers = a0.defers → Q .normal a' w') :
    ∀ (fuel : Nat) (listed : Array Bool) (k : Nat) (ψ : Map) (a : Act) (w : World), Inv P B0 w0 ops tr h0 F0 ψ listed k a w ∨ Early P B0 w0 ops tr h0 F0 z m sz dz ψ listed k a w → unl listed ≤ fuel → φ.le ψ → a.defers = a0.defers → wpAny P .any ops Q fuel listed a w := by
  have hdef : ∀ (a : Act) d v, (a.put d v).defers = a.defers := fun a d v => by cases d <;> rfl
  obtain ⟨hoz, hzspec, hzn⟩ := T.at_ z sz Z.at_
  have hlt : ∀ (i : Nat) (s : St), tr[i]? = some s → i < ops.size := fun i s hi => by
    have : i < tr.length := by
      rcases Nat.lt_or_ge i tr.length with hx | hx
      · exact hx
      · rw [List.getElem?_eq_none hx] at hi; cases hi
    rw [T.len] at this; simpa using this
  have same : ∀ {q i : Nat} {y : AW} {q' : Nat} {y' : AW}, (acts 0 tr)[q]? = some (i, y) → (acts 0 tr)[q']? = some (i, y') → q = q' := fun hq hq' => (acts_at tr 0 _ _ _ hq).2.2.trans (acts_at tr 0 _ _ _ hq').2.2.symm
  have actIn : ∀ {q : Nat}, q < m → ∃ i y, (acts 0 tr)[q]? = some (i, y) ∧ i ≠ z := by
    intro q hq
    have hml : m < (acts 0 tr).length := (List.getElem?_eq_some_iff.1 Z.ix).1
    obtain ⟨⟨i, y⟩, hi⟩ : ∃ p, (acts 0 tr)[q]? = some p := ⟨_, List.getElem?_eq_getElem (by omega)⟩
    refine ⟨i, y, hi, ?_⟩
    rintro rfl
    have := same hi Z.ix
    omega
  have esize : ∀ {listed : Array Bool} {k : Nat} {ψ : Map} {a : Act} {w : World}, Inv P B0 w0 ops tr h0 F0 ψ listed k a w ∨ Early P B0 w0 ops tr h0 F0 z m sz dz ψ listed k a w → listed.size = ops.size := by
    rintro listed k ψ a w (I | ⟨B1, w1, l0, b0, v', rfl, _, _, I, _⟩)
    · exact I.size
    · rw [Array.size_setIfInBounds]; exact I.size
  have fin : ∀ (listed : Array Bool) (k : Nat) (ψ : Map) (a : Act) (w : World), Inv P B0 w0 ops tr h0 F0 ψ listed k a w ∨ Early P B0 w0 ops tr h0 F0 z m sz dz ψ listed k a w → φ.le ψ → a.defers = a0.defers → Region.ready .any ops listed = [] → Q .normal a w := by
    intro listed k ψ a w St hle hd hr
    have hall : ∀ i, i < ops.size → listed[i]? = some true := fun i hi => all_listed (esize St) S hr (i + 1) i (by omega) hi
    rcases St with I | ⟨B1, w1, l0, b0, v', rfl, hzl, rfl, I, hkm, _, _⟩
    · refine hQ ψ a w hle ⟨by rw [I.n, T.n], fun t => ?_⟩ ?_ hd
      · rcases T.fin t with ⟨i, si, a1, a2, a3⟩ | ⟨b1, b2⟩
        · rw [a3]; exact I.vals i si a1 (hall i (hlt i si a1)) t a2
        · rw [b2]; exact I.rest t fun i si hi _ => b1 i si hi
      · have hk : k = (acts 0 tr).length := by
          rcases Nat.lt_or_ge k (acts 0 tr).length with hx | hx
          · obtain ⟨⟨i, x⟩, hix⟩ : ∃ p, (acts 0 tr)[k]? = some p := ⟨_, List.getElem?_eq_getElem hx⟩
            obtain ⟨_, ⟨s, a1, _⟩, _⟩ := acts_at tr 0 k i x hix
            have := (I.kth k i x hix).1 (hall i (hlt i s (by simpa using a1)))
            omega
          · exact Nat.le_antisymm I.kle hx
        rw [T.last, ← hk]
        exact I.heap
    · exfalso
      obtain ⟨i, y, hi, hne⟩ := actIn hkm
      obtain ⟨_, ⟨s, a1, _⟩, _⟩ := acts_at tr 0 k i y hi
      have h1 := hall i (hlt i s (by simpa using a1))
      rw [Array.getElem?_setIfInBounds_ne (Ne.symm hne)] at h1
      have := (I.kth k i y hi).1 h1
      omega
  intro fuel
  induction fuel with
  | zero =>
    intro listed k ψ a w St hu hle hd
    have hr : Region.ready .any ops listed = [] := by
      cases hx : Region.ready .any ops listed with
      | nil => rfl
      | cons i l =>
        have := (ready_spec (esize St) (i := i) (by rw [hx]; simp)).1
        have := unl_set this
        omega
    exact ⟨hr, fin listed k ψ a w St hle hd hr⟩
  | succ fuel ih =>
    intro listed k ψ a w St hu hle hd
    refine ⟨fin listed k ψ a w St hle hd, fun j hj => ?_⟩
    obtain ⟨hnl, o, ho, hre⟩ := ready_spec (esize St) hj
    have huu := unl_set hnl
    have hol : ops.toList[j]? = some o := by simpa using ho
    obtain ⟨s, hs⟩ : ∃ s, tr[j]? = some s := by
      have : j < tr.length := by
        rw [T.len]
        rcases Nat.lt_or_ge j ops.toList.length with hx | hx
        · exact hx
        · rw [List.getElem?_eq_none hx] at hol; cases hol
      exact ⟨_, List.getElem?_eq_getElem this⟩
    obtain ⟨hoj, hspec, hsn⟩ := T.at_ j s hs
    rw [hol] at hoj
    obtain rfl := Option.some.inj hoj
    rcases St with I | ⟨B1, w1, l0, b0, vz, rfl, hzl, rfl, I, hkm, hrz, had⟩
    · -- nothing is pending
      have hidx : ∀ h2, s.act = some h2 → (∃ x, (acts 0 tr)[k]? = some (j, x)) ∨ (j = z ∧ k < m) := by
        intro h2 ha
        obtain ⟨_, hm⟩ := T.hp j s hs
        have hm := hm h2 ha
        generalize (acts 0 (tr.take j)).length = mj at hm
        have hnot : ¬ mj < k := fun hlt => by
          have := (I.kth mj j h2 hm).2 hlt
          rw [hnl] at this; cases this
        rcases Nat.lt_or_ge k mj with hlt2 | hge
        · by_cases hjz : j = z
          · subst hjz
            have := same hm Z.ix
            exact .inr ⟨rfl, by omega⟩
          · exfalso
            have hml : mj < (acts 0 tr).length := (List.getElem?_eq_some_iff.1 hm).1
            obtain ⟨⟨i, x⟩, hix⟩ : ∃ p, (acts 0 tr)[k]? = some p := ⟨_, List.getElem?_eq_getElem (by omega)⟩
            have hb := Z.pairs k mj (i, x) (j, h2) hlt2 hix hm hjz
            have := (I.kth k i x hix).1 (bef_listed S I.down (j + 1) j (by omega) s.o hol hre i hb)
            omega
        · have : mj = k := by omega
          subst this
          exact .inl ⟨h2, hm⟩
      by_cases hnow : ∀ h2, s.act = some h2 → ∃ x, (acts 0 tr)[k]? = some (j, x)
      · refine exec_one (hcall _ _) hok S T hst I hs hre hnl (fun t _ => rfl) hnow fun ψ' v' w' k' hle' hv hk H' => ?_
        exact ih _ k' ψ' _ w' (.inl (I.step S T hs hre hnl hle' hv hk H')) (by omega) (Map.le_trans hle hle') ((hdef _ _ _).trans hd)
      · -- it comes early
        obtain ⟨h2, ha, hno⟩ : ∃ h2, s.act = some h2 ∧ ¬ ∃ x, (acts 0 tr)[k]? = some (j, x) := by
          rcases hc : s.act with _ | h2
          · exact absurd (fun h2 e => by rw [hc] at e; cases e) hnow
          · refine ⟨h2, rfl, fun hx => hnow fun _ _ => hx⟩
        obtain ⟨hjz, hkm⟩ := (hidx h2 ha).resolve_left hno
        subst hjz
        obtain rfl : s = sz := Option.some.inj (hs.symm.trans Z.at_)
        obtain ⟨hwt, hact2⟩ := hspec.turn h2 ha
        obtain ⟨hsh, hmm⟩ := T.hp j s hs
        have hmm := hmm h2 ha
        generalize (acts 0 (tr.take j)).length = mj at hsh hmm
        obtain rfl := same hmm Z.ix
        have hreads := I.reads S T hs hre hnl
        have hops := opersOk_spec hok s.o (List.mem_of_getElem? hol)
        have hrev : Rev ψ s.F a.eval s.o.op.operands.toList := rev_of hops I.glob fun t ht => hreads t (List.mem_append_left _ ht)
        have hwant := guard_ok' (ops := ops) (o := s.o) (a := a) (fun g want og d h1 h2 h3 => hreads d (by
          unfold readsOf
          refine List.mem_append_right _ ?_
          rw [h1]
          simp only [h2, h3, List.mem_singleton])) hspec.guard
        have hA : opA P s.F s.h s.o.op = some (s.v, h2) := by
          have := hact2
          unfold actV at this
          rcases Z.new with ⟨t, e⟩ | ⟨t, len, parts, e⟩
          · rw [e] at this ⊢; exact this
          · rw [e] at this ⊢; exact this
        obtain ⟨i, h1, cells, cells', e, f, hn, htag, hl, hvv, hrun⟩ := new_run (P := P) Z.new hrev hA
        unfold wpOp
        rw [ho]
        simp only
        rw [hwant, hwt, if_pos rfl]
        refine .inl ?_
        unfold Oper.wp
        rw [hrun, Oper.upon_value, Z.dst]
        refine ih _ k ψ _ _ (.inr ⟨_, _, listed, a, f w.heap.size, rfl, hnl, rfl, ⟨I.size, I.down, I.kle, I.kth, I.heap.skip _, I.glob, I.n, I.vals, I.rest⟩, hkm, hre, fun ψ' W hle' H' => ?_⟩) (by omega) hle ((hdef _ _ _).trans hd)
        rw [hsh] at hn
        obtain ⟨ψ'', l1, l2, l3⟩ := H'.adopt I.heap.base (I.heap.below.alloc I.heap.inn _) (fun _ h => .inl h) (fun _ h => h) (b := w.heap.size) (.inr rfl) I.heap.newZ (fun k => by rw [cell_new]; simp) (fun k => hard_alloc_new _ _ _ _) hn (hl.mono hle')
        refine ⟨ψ'', l1, hvv _ _ l2, ?_⟩
        rw [hAt_succ _ _ _ _ hmm]
        rcases htag with rfl | rfl
        · exact l3
        · refine l3.tag (l3.dom _ _ l2) fun b σ κ e' => ?_
          rw [l2] at e'
          cases e'
          have := H'.below.block w.heap.size (.inr rfl)
          exact ⟨_, _, this.trans (heap_alloc_new _ _)⟩
    · -- it is pending
      have hzs : z < l0.size := by
        rcases Nat.lt_or_ge z l0.size with hx | hx
        · exact hx
        · rw [Array.getElem?_eq_none hx] at hzl; cases hzl
      have hjz : j ≠ z := by
        rintro rfl
        have : (l0.setIfInBounds j true)[j]? = some true := (lst_set hzs j).2 (.inl rfl)
        rw [hnl] at this; cases this
      have hnl0 : l0[j]? = some false := by rwa [Array.getElem?_setIfInBounds_ne (Ne.symm hjz)] at hnl
      have down : ∀ (i : Nat) (oi : Oper), ops.toList[i]? = some oi → (l0.setIfInBounds z true)[i]? = some true → ∀ e, e ∈ oi.after.toList → Region.binds .any e = true → (l0.setIfInBounds z true)[e.on]? = some true := by
        intro i oi hi hl e he hb
        rw [lst_set hzs] at hl ⊢
        rcases hl with rfl | hl
        · rw [hoz] at hi; cases hi
          exact .inr (hrz e he hb)
        · exact .inr (I.down i oi hi hl e he hb)
      obtain ⟨ik, yk, hik, hikz⟩ := actIn hkm
      have nodep : ¬ (bef (masks ops.toList []) z j = true ∨ ∃ e, e ∈ s.o.after.toList ∧ e.on = z) := by
        intro hd
        have hb := Z.deps j s.o hol hd k (ik, yk) hkm hik
        have := bef_listed S down (j + 1) j (by omega) s.o hol hre ik hb
        rw [lst_set hzs] at this
        have := (I.kth k ik yk hik).1 (this.resolve_left hikz)
        omega
      have hre0 : ∀ e, e ∈ s.o.after.toList → Region.binds .any e = true → l0[e.on]? = some true := by
        intro e he hb
        have := hre e he hb
        rw [lst_set hzs] at this
        exact this.resolve_left fun h => nodep (.inr ⟨e, he, h⟩)
      have hdz : dz ∉ readsOf ops.toList s.o := by
        intro hm
        obtain ⟨h1, h2⟩ := (S.pair z j sz.o s.o hoz hol (Ne.symm hjz) dz Z.dst).2 hm
        rcases Nat.lt_or_ge z j with hlt2 | hge
        · exact nodep (.inl (h1 hlt2))
        · have hb := h2 (by omega)
          have := bef_listed S I.down (z + 1) z (by omega) sz.o hoz hrz j hb
          rw [hnl0] at this; cases this
      have hdj : s.o.dst ≠ some dz := (S.pair z j sz.o s.o hoz hol (Ne.symm hjz) dz Z.dst).1
      have hroom : ∀ x : Nat, (some dz : Option Tmp) = some x → x < b0.tmps.size := fun x hx => by
        have := hzspec.room x (by rw [Z.dst]; exact hx)
        rw [hzn] at this; rw [I.n]; exact this
      have hea : ∀ t, t ∈ readsOf ops.toList s.o → (b0.put (some dz) vz).eval (.tmp t) = b0.eval (.tmp t) := by
        intro t ht
        rw [eval_put hroom, if_neg (fun e => hdz (by cases e; exact ht))]
      have hact : ∀ h2, s.act = some h2 → ∃ x, (acts 0 tr)[k]? = some (j, x) := by
        intro h2 ha
        obtain ⟨_, hm⟩ := T.hp j s hs
        have hm := hm h2 ha
        generalize (acts 0 (tr.take j)).length = mj at hm
        have hnot : ¬ mj < k := fun hlt => by
          have := (I.kth mj j h2 hm).2 hlt
          rw [hnl0] at this; cases this
        rcases Nat.lt_or_ge k mj with hlt2 | hge
        · exfalso
          have hb := Z.pairs k mj (ik, yk) (j, h2) hlt2 hik hm hjz
          have := (I.kth k ik yk hik).1 (bef_listed S I.down (j + 1) j (by omega) s.o hol hre0 ik hb)
          omega
        · have : mj = k := by omega
          subst this
          exact ⟨h2, hm⟩
      refine exec_one (hcall _ _) hok S T hst I hs hre0 hnl0 hea hact fun ψ' v' w' k' hle' hv hk H' => ?_
      have I' := I.step S T hs hre0 hnl0 hle' hv hk H'
      have hk' : k' ≤ m := by rcases hk with ⟨_, rfl⟩ | ⟨_, _, rfl⟩ <;> omega
      have hjs : j < l0.size := by
        rcases Nat.lt_or_ge j l0.size with hx | hx
        · exact hx
        · rw [Array.getElem?_eq_none hx] at hnl0; cases hnl0
      have hrz' : ∀ e, e ∈ sz.o.after.toList → Region.binds .any e = true → (l0.setIfInBounds j true)[e.on]? = some true := fun e he hb => (lst_set hjs _).2 (.inr (hrz e he hb))
      have hzl' : (l0.setIfInBounds j true)[z]? = some false := by rw [Array.getElem?_setIfInBounds_ne hjz]; exact hzl
      have hput : (b0.put (some dz) vz).put s.o.dst v' = (b0.put s.o.dst v').put (some dz) vz := put_comm hdj
      have hls : (l0.setIfInBounds z true).setIfInBounds j true = (l0.setIfInBounds j true).setIfInBounds z true := Array.setIfInBounds_comm _ _ (Ne.symm hjz)
      have hfu : unl ((l0.setIfInBounds z true).setIfInBounds j true) ≤ fuel := by omega
      have hdd : ((b0.put (some dz) vz).put s.o.dst v').defers = a0.defers := (hdef _ _ _).trans hd
      rw [hput] at hdd ⊢
      rw [hls] at hfu ⊢
      rcases Nat.lt_or_ge k' m with hlt2 | hge
      · exact ih _ k' ψ' _ w' (.inr ⟨B1, w1, _, _, vz, rfl, hzl', rfl, I', hlt2, hrz', fun ψ2 W l H2 => had ψ2 W (Map.le_trans hle' l) H2⟩) hfu (Map.le_trans hle hle') hdd
      · have hkm' : k' = m := by omega
        rw [hkm'] at I' H'
        obtain ⟨ψ'', l1, l2, l3⟩ := had ψ' w' hle' H'
        have I2 := I'.step S T Z.at_ hrz' hzl' l1 l2 (.inr ⟨xz, Z.ix, rfl⟩) l3
        rw [Z.dst] at I2
        exact ih _ (m + 1) ψ'' _ w' (.inl I2) hfu (Map.le_trans hle (Map.le_trans hle' l1)) hdd
theorem virt_spec {base : Nat} {o : Oper} {v : Value} (e : virt base o = some v) : ∃ d t, o.dst = some d ∧ o.op = .makeMap t none ∧ o.guard = none ∧ v = .map (some (base + d)) ∧ ∀ b, virt b o = some (.map (some (b + d))) := by
  unfold virt at e
  split at e
  · simp only [Option.some.injEq] at e
    exact ⟨_, _, rfl, rfl, rfl, e.symm, fun b => rfl⟩
  · cases e
theorem mapDsts_mem {l : List Oper} {o : Oper} {d b : Nat} {v : Value} (hm : o ∈ l) (hd : o.dst = some d) (hv : virt b o = some v) : d ∈ mapDsts l := by
  obtain ⟨d', t, h1, _, _, _, h5⟩ := virt_spec hv
  unfold mapDsts
  rw [List.mem_filterMap]
  refine ⟨o, hm, ?_⟩
  unfold mapDst
  rw [h5 0]
  exact hd
theorem mapDsts_of {l : List Oper} {d : Nat} (h : d ∈ mapDsts l) : ∃ (j : Nat) (o : Oper) (v : Value), l[j]? = some o ∧ o.dst = some d ∧ virt 0 o = some v := by
  unfold mapDsts at h
  rw [List.mem_filterMap] at h
  obtain ⟨o, hm, ho⟩ := h
  unfold mapDst at ho
  split at ho
  · rename_i v hv
    obtain ⟨j, hj⟩ := List.mem_iff_getElem?.1 hm
    exact ⟨j, o, v, hj, ho, hv⟩
  · cases ho
theorem actsM_spec : ∀ {l : List St}, actsM l = true → ∀ (j : Nat) (s : St), l[j]? = some s → ∀ x, s.act = some x → actM s.o.op = true
  | [], _, j, s, h => by simp at h
  | y :: l, h, j, s, hj => by
    simp only [actsM, Bool.and_eq_true] at h
    intro x hx
    cases j with
    | zero => simp at hj; subst hj; have := h.1; rw [hx] at this; exact this
    | succ j => exact actsM_spec h.2 j s (by simpa using hj) x hx
theorem nodupB_spec : ∀ {l : List Nat}, nodupB l = true → l.Nodup
  | [], _ => List.nodup_nil
  | x :: l, h => by
    simp only [nodupB, Bool.and_eq_true, Bool.not_eq_true'] at h
    rw [List.nodup_cons]
    refine ⟨fun hm => ?_, nodupB_spec h.2⟩
    have : l.contains x = true := by simpa using hm
    rw [h.1] at this; cases this
structure Pend (B0 : Zn) (w0 : World) (ops : Array Oper) (base n : Nat) (B1 : Zn) (w1 : World) (ψ : Map) (listed : Array Bool) (pend : Nat → Option Nat) (hk : AW) : Prop where
  base0 : ∀ k, B0.Z k → k < w0.heap.size
  bel : BelowZ B0 w0 w1
  R : ∀ k, B1.R k ↔ B0.R k
  Z : ∀ k, B1.Z k ↔ B0.Z k ∨ ∃ d, pend d = some k
  inj : ∀ d d' b, pend d = some b → pend d' = some b → d = d'
  new : ∀ d b, pend d = some b → d < n ∧ ¬ B0.Z b ∧ w1.heap[b]? = some (.map #[] 0) ∧ ψ (base + d) = some (b, 0, 0)
  un : ∀ d, d < n → pend d = none → ψ (base + d) = none
  blank : ∀ d, d < n → Blank hk (base + d)
  room : base + n ≤ hk.next
  lst : ∀ (j : Nat) (o : Oper) (d : Nat), ops.toList[j]? = some o → o.dst = some d → (virt 0 o).isSome = true → (listed[j]? = some true ↔ (pend d).isSome = true)
  only : ∀ d b, pend d = some b → d ∈ mapDsts ops.toList
theorem Pend.quiet {base n : Nat} {B1 : Zn} {w1 : World} {listed : Array Bool} {pend : Nat → Option Nat} {hk hk' : AW} (D : Pend B0 w0 ops base n B1 w1 ψ listed pend hk) {j : Nat} {o : Oper} (hj : ops.toList[j]? = some o) (hjs : j < listed.size) (hv : virt 0 o = none)
    (hb : ∀ d, d < n → Blank hk (base + d) → Blank hk' (base + d)) (hn : hk.next ≤ hk'.next) : Pend B0 w0 ops base n B1 w1 ψ (listed.setIfInBounds j true) pend hk' :=
  ⟨D.base0, D.bel, D.R, D.Z, D.inj, D.new, D.un, fun d hd => hb d hd (D.blank d hd), Nat.le_trans D.room hn, fun i oi d hi hd hvi => by
    have hne : i ≠ j := by
      rintro rfl
      rw [hj] at hi; cases hi
      rw [hv] at hvi; cases hvi
    rw [lst_set hjs]
    have := D.lst i oi d hi hd hvi
    rw [← this]
    exact ⟨fun h => h.resolve_left hne, .inr⟩, D.only⟩
theorem drawn_maps {base : Nat} (hok : opersOk P.globals.size ops.toList = true) (S : Static ops.toList) (T : Trace P (some base) call ops tr F0 F' h0 h') (hch : chainOk (masks ops.toList []) (acts 0 tr) = true) (hst : stsOk P (masks ops.toList []) h0 (acts 0 tr) 0 0 tr = true)
    (hact : ∀ (j : Nat) (s : St), tr[j]? = some s → ∀ x, s.act = some x → actM s.o.op = true) (nd : (mapDsts ops.toList).Nodup) {Q : Exit → Act → World → Prop} {φ : Map} {a0 : Act}
    (hQ : ∀ ψ a' w', φ.le ψ → FRel ψ F' a' → HRel B0 w0 ψ (h'.layMaps base (mapDsts ops.toList)) w' → a'.defers = a0.defers → Q .normal a' w') :
    ∀ (fuel : Nat) (listed : Array Bool) (k : Nat) (ψ : Map) (a : Act) (w : World) (B1 : Zn) (w1 : World) (pend : Nat → Option Nat), Inv P B1 w1 ops tr h0 F0 ψ listed k a w → Pend B0 w0 ops base F0.n B1 w1 ψ listed pend (hAt h0 (acts 0 tr) k) →
      unl listed ≤ fuel → φ.le ψ → a.defers = a0.defers → wpAny P .any ops Q fuel listed a w := by
  have hdef : ∀ (a : Act) d v, (a.put d v).defers = a.defers := fun a d v => by cases d <;> rfl
  have fin : ∀ (listed : Array Bool) (k : Nat) (ψ : Map) (a : Act) (w : World) (B1 : Zn) (w1 : World) (pend : Nat → Option Nat), Inv P B1 w1 ops tr h0 F0 ψ listed k a w → Pend B0 w0 ops base F0.n B1 w1 ψ listed pend (hAt h0 (acts 0 tr) k) →
      φ.le ψ → a.defers = a0.defers → Region.ready .any ops listed = [] → Q .normal a w := by
    intro listed k ψ a w B1 w1 pend I D hle hd hr
    have hall : ∀ i, i < ops.size → listed[i]? = some true := fun i hi => all_listed I.size S hr (i + 1) i (by omega) hi
    have hlt : ∀ (i : Nat) (s : St), tr[i]? = some s → i < ops.size := fun i s hi => by
      have : i < tr.length := by
        rcases Nat.lt_or_ge i tr.length with hx | hx
        · exact hx
        · rw [List.getElem?_eq_none hx] at hi; cases hi
      rw [T.len] at this; simpa using this
    have hk : k = (acts 0 tr).length := by
      rcases Nat.lt_or_ge k (acts 0 tr).length with hx | hx
      · obtain ⟨⟨i, x⟩, hix⟩ : ∃ p, (acts 0 tr)[k]? = some p := ⟨_, List.getElem?_eq_getElem hx⟩
        obtain ⟨_, ⟨s, a1, _⟩, _⟩ := acts_at tr 0 k i x hix
        have := (I.kth k i x hix).1 (hall i (hlt i s (by simpa using a1)))
        omega
      · exact Nat.le_antisymm I.kle hx
    have hlast : hAt h0 (acts 0 tr) k = h' := by rw [T.last, ← hk]
    have H := I.heap
    rw [hlast] at H D
    refine hQ ψ a w hle ⟨by rw [I.n, T.n], fun t => ?_⟩ ?_ hd
    · rcases T.fin t with ⟨i, si, a1, a2, a3⟩ | ⟨b1, b2⟩
      · rw [a3]; exact I.vals i si a1 (hall i (hlt i si a1)) t a2
      · rw [b2]; exact I.rest t fun i si hi _ => b1 i si hi
    · refine HRel.lays D.base0 D.bel D.inj _ _ B1 nd (fun d hd => ?_) D.R (fun k => (D.Z k).trans ⟨fun h => h.imp id fun ⟨d, e⟩ => ⟨d, D.only d k e, e⟩, fun h => h.imp id fun ⟨d, _, e⟩ => ⟨d, e⟩⟩) H
      obtain ⟨j, o, v, h1, h2, h3⟩ := mapDsts_of hd
      have hj : j < ops.size := by
        have := (List.getElem?_eq_some_iff.1 h1).1
        simpa using this
      have hs := (D.lst j o d h1 h2 (by rw [h3]; rfl)).1 (hall j hj)
      obtain ⟨b, hb⟩ := Option.isSome_iff_exists.1 hs
      obtain ⟨n1, n2, n3, n4⟩ := D.new d b hb
      have := D.room
      exact ⟨by omega, D.blank d n1, b, hb, n2, n3, n4⟩
  intro fuel
  induction fuel with
  | zero =>
    intro listed k ψ a w B1 w1 pend I D hu hle hd
    have hr : Region.ready .any ops listed = [] := by
      cases hx : Region.ready .any ops listed with
      | nil => rfl
      | cons i l =>
        have := (ready_spec I.size (i := i) (by rw [hx]; simp)).1
        have := unl_set this
        omega
    exact ⟨hr, fin listed k ψ a w B1 w1 pend I D hle hd hr⟩
  | succ fuel ih =>
    intro listed k ψ a w B1 w1 pend I D hu hle hd
    refine ⟨fin listed k ψ a w B1 w1 pend I D hle hd, fun j hj => ?_⟩
    obtain ⟨hnl, o, ho, hre⟩ := ready_spec I.size hj
    have huu := unl_set hnl
    have hol : ops.toList[j]? = some o := by simpa using ho
    have hjs : j < listed.size := by
      rcases Nat.lt_or_ge j listed.size with hx | hx
      · exact hx
      · rw [Array.getElem?_eq_none hx] at hnl; cases hnl
    obtain ⟨s, hs⟩ : ∃ s, tr[j]? = some s := by
      have : j < tr.length := by
        rw [T.len]
        rcases Nat.lt_or_ge j ops.toList.length with hx | hx
        · exact hx
        · rw [List.getElem?_eq_none hx] at hol; cases hol
      exact ⟨_, List.getElem?_eq_getElem this⟩
    obtain ⟨hoj, hspec, hsn⟩ := T.at_ j s hs
    rw [hol] at hoj
    obtain rfl := Option.some.inj hoj
    have hreads := I.reads S T hs hre hnl
    have hmem : s.o ∈ ops.toList := List.mem_of_getElem? hol
    have hops := opersOk_spec hok s.o hmem
    have hrev : Rev ψ s.F a.eval s.o.op.operands.toList := rev_of hops I.glob fun t ht => hreads t (List.mem_append_left _ ht)
    have hwant := guard_ok' (ops := ops) (o := s.o) (a := a) (fun g want og d h1 h2 h3 => hreads d (by
      unfold readsOf
      refine List.mem_append_right _ ?_
      rw [h1]
      simp only [h2, h3, List.mem_singleton])) hspec.guard
    have nov : ∀ {b : Nat}, virt b s.o = none → virt 0 s.o = none := fun {b} e => by
      cases e0 : virt 0 s.o with
      | none => rfl
      | some v => obtain ⟨_, _, _, _, _, _, h5⟩ := virt_spec e0; rw [h5 b] at e; cases e
    unfold wpOp
    rw [ho]
    simp only
    rw [hwant]
    cases hw : s.want with
    | false =>
      rw [if_neg (by simp)]
      obtain ⟨e1, e2⟩ := hspec.off hw
      have hv0 : virt 0 s.o = none := by
        cases e0 : virt 0 s.o with
        | none => rfl
        | some v =>
          obtain ⟨_, _, _, _, h3, _⟩ := virt_spec e0
          have := hspec.guard
          unfold guardOk at this
          rw [h3] at this
          simp only [Option.some.injEq] at this
          rw [hw] at this; cases this
      exact ih _ k ψ _ w B1 w1 pend (I.step S T hs hre hnl ψ.le_refl (by rw [e2]; exact VRel.undef) (.inl ⟨e1, rfl⟩) I.heap) (D.quiet hol hjs hv0 (fun _ _ h => h) (Nat.le_refl _)) (by omega) hle ((hdef _ _ _).trans hd)
    | true =>
      rw [if_pos rfl]
      refine .inl ?_
      have hbl : ∀ i, bef (masks ops.toList []) i j = true → listed[i]? = some true := fun i hb => bef_listed S I.down (j + 1) j (by omega) s.o hol hre i hb
      cases ha : s.act with
      | none =>
        have hq := hspec.quiet hw ha
        unfold opQV at hq
        simp only at hq
        cases hvt : virt base s.o with
        | some v =>
          rw [hvt] at hq
          simp only [Option.some.injEq] at hq
          obtain ⟨d, t, hdst, hop, _, rfl, hvb⟩ := virt_spec hvt
          have hrun : (execOp a.eval s.o).run P w = .ok (.value (.map (some w.heap.size))) (w.alloc (.map #[] 0)) := by
            simp [execOp, hop, Instr.makeMap, Result.andThen_ok]
          have hdn : d < F0.n := by have := hspec.room d hdst; rwa [hsn] at this
          have hpn : pend d = none := by
            cases hp : pend d with
            | none => rfl
            | some b =>
              have := (D.lst j s.o d hol hdst (by rw [hvb 0]; rfl)).2 (by rw [hp]; rfl)
              rw [hnl] at this; cases this
          have hψ := D.un d hdn hpn
          have hroom := D.room
          have hlt2 : base + d < (hAt h0 (acts 0 tr) k).next := Nat.lt_of_lt_of_le (Nat.add_lt_add_left hdn base) hroom
          obtain ⟨hle2, H2⟩ := (I.heap.skip (.map #[] 0)).name (i := base + d) hlt2 hψ (D.blank d hdn) w.heap.size
          have hbw : BelowZ B0 w0 w := D.bel.trans ⟨I.heap.below.os, I.heap.below.tape, I.heap.below.output, I.heap.below.size, fun k hk => I.heap.below.block k ((D.Z k).2 (.inl hk))⟩
          have hinn : ∀ k, B0.Z k → k < w.heap.size := fun k hk => I.heap.inn k ((D.Z k).2 (.inl hk))
          have hnew : (w.alloc (.map #[] 0)).heap[w.heap.size]? = some (Obj.map #[] 0) := heap_alloc_new w _
          have hold : ∀ e b, pend e = some b → b < w.heap.size := fun e b he => I.heap.inn b ((D.Z b).2 (.inr ⟨e, he⟩))
          unfold Oper.wp
          rw [hrun, Oper.upon_value]
          refine ih _ k _ _ _ _ _ (fun e => if e = d then some w.heap.size else pend e) (I.step S T hs hre hnl hle2 (v' := .map (some w.heap.size)) (by rw [← hq]; exact .map (Map.add_same _ _ _)) (.inl ⟨ha, rfl⟩) H2) ?_ (by omega) (Map.le_trans hle hle2) ((hdef _ _ _).trans hd)
          refine ⟨D.base0, hbw.alloc hinn _, D.R, fun k => ?_, fun e e' b h1 h2 => ?_, fun e b h1 => ?_, fun e he h1 => ?_, D.blank, D.room, fun i oi e hi he hvi => ?_, fun e b h1 => ?_⟩
          · show (B1.Z k ∨ k = w.heap.size) ↔ _
            rw [D.Z k]
            constructor
            · rintro ((h | ⟨e, h⟩) | rfl)
              · exact .inl h
              · have hed : e ≠ d := by rintro rfl; rw [hpn] at h; cases h
                exact .inr ⟨e, by rw [if_neg hed]; exact h⟩
              · exact .inr ⟨d, by rw [if_pos rfl]⟩
            · rintro (h | ⟨e, h⟩)
              · exact .inl (.inl h)
              · split at h
                · cases h; exact .inr rfl
                · exact .inl (.inr ⟨e, h⟩)
          · split at h1
            · rename_i x
              split at h2
              · rename_i y; rw [x, y]
              · cases h1
                have := hold e' _ h2
                omega
            · split at h2
              · cases h2
                have := hold e _ h1
                omega
              · exact D.inj e e' b h1 h2
          · split at h1
            · rename_i x
              cases h1
              subst x
              exact ⟨hdn, fun hz => by have := hinn _ hz; omega, hnew, Map.add_same _ _ _⟩
            · rename_i x
              obtain ⟨n1, n2, n3, n4⟩ := D.new e b h1
              have hb := hold e b h1
              refine ⟨n1, n2, ?_, ?_⟩
              · have h5 := I.heap.below.block b ((D.Z b).2 (.inr ⟨e, h1⟩))
                simp only [World.alloc, Array.getElem?_push]
                rw [if_neg (by omega), h5]; exact n3
              · rw [Map.add_ne _ _ (by omega)]; exact n4
          · split at h1
            · cases h1
            · rename_i x
              rw [Map.add_ne _ _ (by omega)]
              exact D.un e he h1
          · rw [lst_set hjs]
            by_cases hij : i = j
            · subst hij
              rw [hol] at hi; cases hi
              rw [hdst] at he; cases he
              simp
            · have hed : e ≠ d := fun x => by
                subst x
                exact (S.pair i j oi s.o hi hol hij e he).1 hdst
              simp only [hij, false_or, if_neg hed]
              exact D.lst i oi e hi he hvi
          · split at h1
            · rename_i x
              subst x
              exact mapDsts_mem hmem hdst hvt
            · exact D.only e b h1
        | none =>
          rw [hvt] at hq
          simp only at hq
          have same : ∃ v, opQ P s.F (hAt h0 (acts 0 tr) k) s.o.op = some v ∧ v = s.v := by
            cases hlk : looks s.o.op with
            | false => exact ⟨s.v, by rw [opQ_still hlk]; exact hq, rfl⟩
            | true =>
              have hst' := sts_spec hst j s hs
              rw [Nat.zero_add, Nat.zero_add] at hst'
              unfold stOk at hst'
              rw [ha, hw, hlk] at hst'
              simp only [Bool.not_true, Bool.false_or] at hst'
              have hchk := chk_spec (acts 0 tr) 0 h0 k hst' I.kle
                (fun m p hm hp => by
                  cases hb : bef (masks ops.toList []) j p.1 with
                  | false => rfl
                  | true =>
                    obtain ⟨i, x⟩ := p
                    have hl := (I.kth m i x hp).2 hm
                    obtain ⟨_, ⟨si, a1, _⟩, _⟩ := acts_at tr 0 m i x hp
                    rw [Nat.sub_zero] at a1
                    have hoi := (T.at_ i si a1).1
                    have := bef_listed S I.down (i + 1) i (by omega) si.o hoi (I.down i si.o hoi hl) j hb
                    rw [hnl] at this; cases this)
                (fun m p hm hp => by
                  cases hb : bef (masks ops.toList []) p.1 j with
                  | false => rfl
                  | true =>
                    obtain ⟨i, x⟩ := p
                    have := (I.kth m i x hp).1 (hbl i hb)
                    omega)
              rcases hchk with e | e
              · have := (T.hp j s hs).1
                rw [Nat.zero_add] at e
                rw [e, ← this]
                exact ⟨s.v, hq, rfl⟩
              · split at e
                · rename_i v hv
                  exact ⟨v, hv, beqV_ok _ _ _ e⟩
                · cases e
          obtain ⟨v, hv, hvs⟩ := same
          obtain ⟨v', hrun, hvr⟩ := opQ_ok (P := P) I.heap hrev hv
          unfold Oper.wp
          rw [hrun, Oper.upon_value]
          exact ih _ k ψ _ w B1 w1 pend (I.step S T hs hre hnl ψ.le_refl (by rw [← hvs]; exact hvr) (.inl ⟨ha, rfl⟩) I.heap) (D.quiet hol hjs (nov hvt) (fun _ _ h => h) (Nat.le_refl _)) (by omega) hle ((hdef _ _ _).trans hd)
      | some h2 =>
        obtain ⟨_, hact2⟩ := hspec.turn h2 ha
        obtain ⟨hsh, hm⟩ := T.hp j s hs
        have hm := hm h2 ha
        generalize (acts 0 (tr.take j)).length = m at hsh hm
        have hmk : m = k := by
          have hnot : ¬ m < k := fun hlt => by
            have := (I.kth m j h2 hm).2 hlt
            rw [hnl] at this; cases this
          rcases Nat.lt_or_ge k m with hlt | hge
          · exfalso
            obtain ⟨m', rfl⟩ : ∃ m', m = m' + 1 := ⟨m - 1, by omega⟩
            obtain ⟨⟨i, x⟩, hix⟩ : ∃ p, (acts 0 tr)[m']? = some p := by
              have : m' < (acts 0 tr).length := by
                rcases Nat.lt_or_ge m' (acts 0 tr).length with hx | hx
                · exact hx
                · rw [List.getElem?_eq_none (by omega)] at hm; cases hm
              exact ⟨_, List.getElem?_eq_getElem this⟩
            have := (I.kth m' i x hix).1 (hbl i (chain_spec hch m' (i, x) (j, h2) hix hm))
            omega
          · omega
        subst hmk
        have hmo := hact j s hs h2 ha
        have hA : opA P s.F s.h s.o.op = some (s.v, h2) := by
          unfold actV at hact2
          split at hact2
          · rename_i hop; rw [hop] at hmo; cases hmo
          · exact hact2
        rw [hsh] at hA
        obtain ⟨v', w', hg, hv, H', r, es, es', hro, hform⟩ := actM_ok I.heap hmo hrev hA
        have hv0 : virt 0 s.o = none := by
          cases e0 : virt 0 s.o with
          | none => rfl
          | some v => obtain ⟨_, _, _, h2, _⟩ := virt_spec e0; rw [h2] at hmo; cases hmo
        have fin2 : wpAny P .any ops Q fuel (listed.setIfInBounds j true) (a.put s.o.dst v') w' := by
          refine ih _ (m + 1) ψ _ w' B1 w1 pend (I.step S T hs hre hnl ψ.le_refl hv (.inr ⟨h2, hm, rfl⟩) (by rw [hAt_succ _ _ _ _ hm]; exact H')) ?_ (by omega) hle ((hdef _ _ _).trans hd)
          rw [hAt_succ _ _ _ _ hm]
          refine D.quiet hol hjs hv0 (fun d _ hb => ?_) ?_
          · rw [hform]; exact hb.set hro
          · rw [hform]; exact Nat.le_refl _
        unfold Oper.wp
        rcases hg with hg1 | ⟨rfl, hg1⟩
        · rw [hg1, Oper.upon_value]; exact fin2
        · rw [hg1, Oper.upon_skip]; exact fin2
theorem HRel.room (H : HRel B0 w0 φ h w) (n : Nat) : HRel B0 w0 φ (h.room n) w :=
  ⟨H.base, H.below, fun i x hx => by have := H.dom i x hx; show i < h.next + n; omega, H.lto, H.obj, fun i f g lo hi sz cs ho => by obtain ⟨a, b⟩ := H.fam i f g lo hi sz cs ho; exact ⟨by show f < h.next + n; omega, b⟩, H.sep, H.ty.same (Cast.refl _) rfl (Nat.le_add_right _ _)⟩
theorem drawn_ok (call : FuncId → List Value → AW → Option (Value × AW)) (hcall : ∀ B0 w0, CallOk P B0 w0 call) (B0 : Zn) (w0 : World) : DrawnOk P B0 w0 call := by
  intro ops F F' h h' hr hok hmix φ a w hF H hG id Q hQ
  unfold runDrawn at hr
  split at hr
  · cases hr
  · rename_i hs
    have hnone : ∀ i, (Array.replicate ops.size false)[i]? ≠ some true := fun i e => by
      rw [Array.getElem?_replicate] at e
      split at e <;> cases e
    have hu : unl (Array.replicate ops.size false) ≤ ops.size := by
      unfold unl
      rw [Array.toList_replicate, List.countP_replicate]
      simp
    split at hr
    · unfold runMaps at hr
      split at hr
      rotate_left
      · cases hr
      rename_i tr F1 h1 ht
      split at hr
      rotate_left
      · cases hr
      rename_i hc
      simp only [Option.some.injEq, Prod.mk.injEq] at hr
      obtain ⟨rfl, rfl⟩ := hr
      simp only [Bool.and_eq_true] at hc
      obtain ⟨⟨c1, c2⟩, c3, c4⟩ := hc
      have H1 := (H.room F.n).drew
      have I0 : Inv P B0 w0 ops tr (h.room F.n) F φ (Array.replicate ops.size false) 0 a w.drew := by
        refine ⟨by simp, fun j oj _ hl => absurd hl (hnone j), Nat.zero_le _, fun m i x _ => ⟨fun hl => absurd hl (hnone i), fun hl => by omega⟩, ?_, hG, hF.1, fun j s _ hl => absurd hl (hnone j), fun t _ => hF.2 t⟩
        rw [hAt_zero]; exact H1
      refine wp_region_any hmix (drawn_maps hok (static_of hs) (trace_of ht) c1 c3 (actsM_spec c2) (nodupB_spec c4) hQ ops.size (Array.replicate ops.size false) 0 φ a _ B0 w0 (fun _ => none) I0 ?_ hu φ.le_refl rfl)
      rw [hAt_zero]
      refine ⟨H.base, .refl _ _, fun k => Iff.rfl, (fun k => ⟨.inl, fun h => h.elim (fun x => x) fun ⟨_, e⟩ => (by cases e)⟩), (fun _ _ _ e => by cases e), (fun _ _ e => by cases e), fun d hd _ => ?_, fun d hd => ?_, Nat.le_refl _, (fun j o d _ _ _ => ⟨fun hl => absurd hl (hnone j), fun e => by cases e⟩), (fun _ _ e => by cases e)⟩
      · cases e : φ (h.next + d) with
        | none => rfl
        | some x => have := H.dom _ _ e; omega
      · have := H.blank (i := h.next + d) (by omega)
        exact this
    split at hr
    · rename_i tr F1 h1 ht
      split at hr
      · rename_i hc
        simp only [Option.some.injEq, Prod.mk.injEq] at hr
        obtain ⟨rfl, rfl⟩ := hr
        rw [Bool.and_eq_true] at hc
        have I0 : Inv P B0 w0 ops tr h F φ (Array.replicate ops.size false) 0 a w.drew := by
          refine ⟨by simp, fun j oj _ hl => absurd hl (hnone j), Nat.zero_le _, fun m i x _ => ⟨fun hl => absurd hl (hnone i), fun hl => by omega⟩, ?_, hG, hF.1, fun j s _ hl => absurd hl (hnone j), fun t _ => hF.2 t⟩
          rw [hAt_zero]; exact H.drew
        have hord := hc.1
        unfold orderedOk at hord
        rw [Bool.or_eq_true] at hord
        rcases hord with h1 | h1
        · exact wp_region_any hmix (drawn_any (hcall B0 w0) hok (static_of hs) (trace_of ht) h1 hc.2 hQ ops.size (Array.replicate ops.size false) 0 φ a _ I0 hu φ.le_refl rfl)
        · obtain ⟨z, m, sz, dz, x, Z⟩ := free_of (trace_of ht) (fun _ h => h) h1
          exact wp_region_any hmix (drawn_free hcall hok (static_of hs) (trace_of ht) Z hc.2 hQ ops.size (Array.replicate ops.size false) 0 φ a _ (.inl I0) hu φ.le_refl rfl)
      · cases hr
    · cases hr
theorem calls_ok (n : Nat) : CallOk P B0 w0 (callF P n) := callF_ok (fun _ h => drawn_ok _ h) n B0 w0
end Go.Abs
end

section
/- Package variables that are tables of integers: laid into the deterministic heap as they stand. -/
open Go.RowKit
namespace Go.Abs
open Go.ChangeShapes
theorem shaped_size {P : Program} {W : World} (hlow : Nat.ble (P.globals.size + 1) (begin P (fun _ _ => 0) default).world.heap.size = true) (hsh : W.ShapedOpen P) : P.globals.size ≤ W.heap.size := by
  obtain ⟨o, _, ho, _⟩ := hsh.2 P.globals.size (Nat.le_refl _) (Nat.le_of_ble_eq_true hlow)
  rcases Nat.lt_or_ge W.heap.size P.globals.size with hx | hx
  · rw [Array.getElem?_eq_none (Nat.le_of_lt hx)] at ho; cases ho
  · exact hx
end Go.Abs
end

section
/- What a function's arguments are in the deterministic heap: all that stood when the call began may be read. -/
open Go.RowKit
namespace Go.Abs
open Go.ChangeShapes
def norm (S : Nat) : Value → Value
  | .slice (some _) 0 0 => .slice (some ⟨S, 0, none⟩) 0 0
  | v => v
def argMap (S : Nat) : Map := fun i => if i < S then some (i, 0, 0) else if i = S then some (0, 0, 0) else none
def T.ofFn {α : Type} (g : Nat → Option α) : Nat → T α
  | 0 => .nil
  | n + 1 => match g n with
    | some a => (T.ofFn g n).set n a
    | none => T.ofFn g n
theorem T.get?_ofFn {α : Type} (g : Nat → Option α) : ∀ (n m : Nat), (T.ofFn g n).get? m = if m < n then g m else none
  | 0, m => by simp [T.ofFn, T.get?]
  | n + 1, m => by
    have ih := T.get?_ofFn g n m
    unfold T.ofFn
    split
    · rename_i a ha
      rw [T.get?_set]
      by_cases e : m = n
      · subst e; rw [if_pos rfl, if_pos (by omega), ha]
      · rw [if_neg e, ih]
        by_cases hl : m < n
        · rw [if_pos hl, if_pos (by omega)]
        · rw [if_neg hl, if_neg (by omega)]
    · rename_i ha
      rw [ih]
      by_cases e : m = n
      · subst e; rw [if_neg (by omega), if_pos (by omega), ha]
      · by_cases hl : m < n
        · rw [if_pos hl, if_pos (by omega)]
        · rw [if_neg hl, if_neg (by omega)]
open Classical in
noncomputable def seen (W : World) (b off : Nat) : Option Value :=
  match W.cell? ⟨b, off, none⟩ with
  | some v => if VRel (argMap W.heap.size) (norm W.heap.size v) v then some (norm W.heap.size v) else none
  | none => none
def cellsIn (W : World) (b : Nat) : Nat := match W.heap[b]? with
  | some (.cells c _ _) => c.size
  | _ => 0
noncomputable def mir (W : World) : AW :=
  ⟨W.heap.size + 1, T.ofFn (fun b => some (.var (T.ofFn (seen W b) (cellsIn W b)) (cellsIn W b) true)) W.heap.size, .nil, .nil, .nil⟩
theorem seen_some {W : World} {b off : Nat} {v : Value} (h : seen W b off = some v) : ∃ v', W.cell? ⟨b, off, none⟩ = some v' ∧ VRel (argMap W.heap.size) v v' := by
  unfold seen at h
  split at h
  · rename_i v' hc
    split at h
    · rename_i hr; cases h; exact ⟨v', hc, hr⟩
    · cases h
  · cases h
theorem mir_obj {W : World} {i : Nat} {o : AObj} (h : (mir W).objs.get? i = some o) : i < W.heap.size ∧ o = .var (T.ofFn (seen W i) (cellsIn W i)) (cellsIn W i) true := by
  unfold mir at h
  simp only at h
  rw [T.get?_ofFn] at h
  split at h
  · rename_i hi; exact ⟨hi, (Option.some.inj h).symm⟩
  · cases h
theorem argMap_lt {S i : Nat} (h : i < S) : argMap S i = some (i, 0, 0) := by simp [argMap, h]
theorem mir_rel (W : World) : HRel (Zn.lt W.heap.size) W (argMap W.heap.size) (mir W) W := by
  refine ⟨fun _ h => h, BelowZ.refl _ _, fun i x hx => ?_, fun i o x ho hx => ?_, fun i o ho => ?_, fun i f g lo hi sz cs ho => ?_, fun i j oi oj b σ κ σ' κ' _ hi _ li => ?_, TyR.nil rfl⟩
  · show i < W.heap.size + 1
    unfold argMap at hx
    split at hx
    · omega
    · split at hx
      · omega
      · cases hx
  · obtain ⟨hi, _⟩ := mir_obj ho
    rw [argMap_lt hi] at hx; cases hx; exact hi
  · obtain ⟨hi, rfl⟩ := mir_obj ho
    refine ⟨i, 0, 0, argMap_lt hi, rfl, rfl, fun off v hoff hv => ?_, fun e => (by cases e), fun _ => .inl hi⟩
    rw [T.get?_ofFn, if_pos hoff] at hv
    exact seen_some hv
  · obtain ⟨_, e⟩ := mir_obj ho; cases e
  · obtain ⟨_, rfl⟩ := mir_obj hi; cases li
section
variable {H : Type} {enc : TypeId × Value → H} {P : Program} {W : World}
theorem post_args {f : Func} {s : ChangeSpec} {apart handsOn : Bool} {args : Array Value} {t : TypeId} {ds gs : List (DataW H)} {before : List MemPlace} {W' : World} (hlaid : laidOutB P = true)
    (hparams : ∀ t', t' ∈ f.params.toList → P.readableRec t' = true ∧ t' < P.types.size) (hr : f.resultTypes = #[t]) (ht : P.underlying t = some .bool) (hv : s.vars = [])
    (hs : ∀ (K : Type) (ds : List (DataW K)), ds.length = f.params.size → (s.fn K ds).results = [.lit (.bool true)] ∧ (s.fn K ds).args = ds ∧ (s.fn K ds).vars = []) (hW : DataW.Whole enc P f.params.toList s.vars apart W args.toList ds gs before) (hB : Below W.heap.size W W') :
    s.post enc P f apart true handsOn false W args (.bool true) W' := by
  have hW' := hW
  have hlt := hW.lt
  obtain ⟨p, q, hA, hV, rfl, hfz, hnd⟩ := hW
  rw [hv] at hV
  obtain ⟨rfl, rfl⟩ := trodVars_none hV
  have hlen : ∀ {ts : List TypeId} {vs : List Value} {ds : List (DataW H)} {ps : List MemPlace}, DataW.TrodAll enc P W 0 (fun _ => true) true ts vs ds ps → ds.length = ts.length := by
    intro ts
    induction ts with
    | nil => intro vs ds ps h; obtain ⟨_, rfl, _⟩ := trodAll_nil h; rfl
    | cons t ts ih => intro vs ds ps h; obtain ⟨v, vs1, d, ds1, a, b, rfl, rfl, rfl, _, h2⟩ := trodAll_cons h; simp [ih h2]
  obtain ⟨h1, h2, h3⟩ := hs H ds (by rw [hlen hA]; simp)
  have stays : ∀ {ts : List TypeId} {vs : List Value} {ds : List (DataW H)} {ps : List MemPlace}, (∀ t', t' ∈ ts → P.readableRec t' = true ∧ t' < P.types.size) → (∀ x ∈ ps, x.block < W.heap.size) → DataW.TrodAll enc P W 0 (fun _ => true) true ts vs ds ps → DataW.TrodAll enc P W' 0 (fun b => decide (b < W.heap.size)) true ts vs ds ps := by
    intro ts
    induction ts with
    | nil => intro vs ds ps _ _ h; obtain ⟨rfl, rfl, rfl⟩ := trodAll_nil h; exact rfl
    | cons t ts ih =>
      intro vs ds ps hp hb h
      obtain ⟨v, vs1, d, ds1, a, b, rfl, rfl, rfl, ha, hb2⟩ := trodAll_cons h
      refine ⟨a, b, Below.trod hlaid (hp t (by simp)).1 (hp t (by simp)).2 ha hB (fun x hx => hb x (List.mem_append_left _ hx)), ih (fun t' h' => hp t' (by simp [h'])) (fun x hx => hb x (List.mem_append_right _ hx)) hb2, rfl⟩
  have hres : ∀ (b : Nat) (sp : Nat → Bool) (hd : Bool), DataW.TrodAll enc P W' b sp hd f.resultTypes.toList ((Value.bool true).resultList f.resultTypes.size) [.lit (.bool true)] [] := by
    intro b sp hd
    rw [hr]
    exact trodAll_mk1 (shut_bool ht _)
  refine ⟨ds, [], _, [], p, [], hW', by rw [List.append_nil, h1]; exact hres _ _ _, by rw [List.append_nil, h2]; exact stays hparams (fun x hx => hlt x (by simp [hx])) hA, by rw [List.append_nil, h3, hv]; exact rfl, hB.frame _, fun e => (by cases e)⟩
end
end Go.Abs
end

section
/- A row with arguments, and with listed package variables, out of what the function comes to. -/
open Go.RowKit
namespace Go.Abs
open Go.ChangeShapes
section
variable {H : Type} {enc : TypeId × Value → H} {P : Program} {f : FuncId} {fn : Func} {s : ChangeSpec} {apart handsOn : Bool} {t : TypeId}
theorem calls_argsE (hlaid : laidOutB P = true) (hparams : ∀ t', t' ∈ fn.params.toList → P.readableRec t' = true ∧ t' < P.types.size)
    (hr : fn.resultTypes = #[t]) (ht : P.underlying t = some .bool) (hv : s.vars = [])
    (hs : ∀ (K : Type) (ds : List (DataW K)), ds.length = fn.params.size → (s.fn K ds).results = [.lit (.bool true)] ∧ (s.fn K ds).args = ds ∧ (s.fn K ds).vars = [])
    (hlow : Nat.ble (P.globals.size + 1) (begin P (fun _ _ => 0) default).world.heap.size = true)
    {W : World} {args : Array Value} {ds gs : List (DataW H)} {before : List MemPlace} (hW : DataW.Whole enc P fn.params.toList s.vars apart W args.toList ds gs before) (hsh : W.ShapedOpen P)
    (run : ∀ (p : List MemPlace), DataW.TrodAll enc P W 0 (fun _ => true) true fn.params.toList args.toList ds p →
      ∃ avs : List Value, LRel (argMap W.heap.size) avs args.toList ∧ EvQ P f avs (mir W) fun v _ => v = .bool true) :
    Calls P f args W fun e W' => ∃ v, e = .returned v ∧ s.post enc P fn apart true handsOn false W args v W' := by
  have hsz := shaped_size hlow hsh
  have hW0 := hW
  obtain ⟨p, q, hA, _⟩ := hW
  obtain ⟨avs, hrel, v, h', ⟨n, hev⟩, hq⟩ := run _ hA
  subst hq
  rcases calls_ok (B0 := Zn.lt W.heap.size) (w0 := W) n f _ _ _ _ hev with ⟨_, hcalls⟩ | ⟨e2, _⟩
  rotate_left
  · exact absurd rfl (e2.1 _)
  have hglob : Glob P (argMap W.heap.size) := fun g hg => argMap_lt (Nat.lt_of_lt_of_le hg hsz)
  have hargs : (⟨args.toList⟩ : Array Value) = args := by simp
  have := hcalls _ _ _ hrel (mir_rel _) hglob
  rw [hargs] at this
  refine this.mono fun e W' he => ?_
  obtain ⟨ψ, v', _, rfl, hv', HR⟩ := he
  rw [hv'.bool_inv]
  exact ⟨_, rfl, post_args hlaid hparams hr ht hv hs hW0 HR.below.below⟩
end
end Go.Abs
end
