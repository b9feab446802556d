/- A deterministic heap for the model, proved sound, and walks of the program over it: part 4. No condition. -/
import Derived.Test.YtgdkekdedgkglaaAb1
import Derived.Test.YtgdkekdedgkglaaAb2
import Derived.Test.YtgdkekdedgkglaaAb3
set_option linter.unusedVariables false
set_option linter.unusedSimpArgs false
set_option linter.unusedSectionVars false
section
/- Walks, seventh part: functions, and places in them. -/
namespace Go.Abs
variable {P : Program} {fn : Func} {ann : Nat → Option (List Nat)} {Q : Value → AW → Prop}

/-- Where a function's walk is cut, and what lives there. -/
def annOf : List (Nat × List Nat) → Nat → Option (List Nat)
  | [], _ => none
  | (i, l) :: r, j => match Nat.beq i j with | true => some l | false => annOf r j

theorem kRes_ok {F F' : Fr} {h : AW} (S : Sub F F') : ∀ {l : List ResultVar} {K : List Value → Prop}, kRes P F h l K → ∃ vs, resultL P F' h l = some vs ∧ K vs
  | [], K, H => ⟨[], rfl, H⟩
  | .tmp t :: l, K, H => by
    simp only [kRes] at H
    split at H
    · rename_i v hv
      obtain ⟨vs, e, k⟩ := kRes_ok S H
      refine ⟨v :: vs, ?_, k⟩
      simp only [resultL, resultV, S.t t v hv, e]
    · exact H.elim
  | .cell a t :: l, K, H => by
    simp only [kRes] at H
    split at H
    · rename_i p hp
      obtain ⟨v, e, H⟩ := kLoad_ok H
      obtain ⟨vs, e', k⟩ := kRes_ok S H
      refine ⟨v :: vs, ?_, k⟩
      simp only [resultL, resultV, S.t a p hp, e, e']
    · exact H.elim
theorem kRet_ok {F F' : Fr} {h : AW} (S : Sub F F') (H : kRet P fn Q F h) : ∃ v, finV P fn F' h = some v ∧ Q v h := by
  unfold kRet at H
  obtain ⟨vs, e, H⟩ := kRes_ok S H
  unfold finV
  rw [e]
  split at H
  · exact ⟨_, rfl, H⟩
  · rename_i hn
    refine ⟨_, ?_, H⟩
    match vs, hn with
    | [], _ => rfl
    | [v], hn => exact absurd rfl (hn v)
    | _ :: _ :: _, _ => rfl
theorem restS_ret {F : Fr} {h : AW} (H : ∃ v, finV P fn F h = some v ∧ Q v h) : ∀ (st : List Item), RestS P fn Q st .ret F h
  | [] => ⟨fun j e => (by cases e), H⟩
  | .seq c :: st => restS_ret H st
  | .block id :: st => restS_ret H st
  | .loop b :: st => restS_ret H st

theorem restC_seq {a b : Code} {st : List Item} {F : Fr} {h : AW} (H : RestC P fn Q a (.seq b :: st) F h) : RestC P fn Q (.seq a b) st F h := by
  obtain ⟨e, F1, h1, r, s⟩ := H
  cases e with
  | normal =>
    obtain ⟨e2, F2, h2, r2, s2⟩ := s
    exact ⟨e2, F2, h2, Runs.seq r r2, s2⟩
  | exit j => exact ⟨_, F1, h1, Runs.seq_out (fun e => by cases e) r, s⟩
  | ret => exact ⟨_, F1, h1, Runs.seq_out (fun e => by cases e) r, s⟩
theorem restC_loop {b : Code} {st : List Item} {F : Fr} {h : AW} (H : RestC P fn Q b (.loop b :: st) F h) : RestC P fn Q (.loop b) st F h := by
  obtain ⟨e, F1, h1, r, s⟩ := H
  cases e with
  | normal =>
    obtain ⟨e2, F2, h2, r2, s2⟩ := s
    exact ⟨e2, F2, h2, Runs.loop_on r r2, s2⟩
  | exit j => exact ⟨_, F1, h1, Runs.loop_out (fun e => by cases e) r, s⟩
  | ret => exact ⟨_, F1, h1, Runs.loop_out (fun e => by cases e) r, s⟩
theorem restC_block {id : Nat} {b : Code} {st : List Item} {F : Fr} {h : AW} (H : RestC P fn Q b (.block id :: st) F h) : RestC P fn Q (.block id b) st F h := by
  obtain ⟨e, F1, h1, r, s⟩ := H
  exact ⟨_, F1, h1, Runs.block r, s⟩

theorem kPop_ok {go : Code → List Item → Fr → AW → Prop} (hgo : ∀ c st F h, go c st F h → ∀ F', Sub F F' → RestC P fn Q c st F' h) {F F' : Fr} {h : AW} (S : Sub F F') (st : List Item) : kPop P fn Q go st F h → RestS P fn Q st .normal F' h := by
  induction st with
  | nil => exact fun H => ⟨fun j e => (by cases e), kRet_ok S H⟩
  | cons i st ih =>
    intro H
    cases i with
    | seq c => exact hgo _ _ _ _ H _ S
    | block j => exact ih H
    | loop b => exact restC_loop (hgo _ _ _ _ H _ S)
theorem kExit_ok {go : Code → List Item → Fr → AW → Prop} (hgo : ∀ c st F h, go c st F h → ∀ F', Sub F F' → RestC P fn Q c st F' h) {id : Nat} {F F' : Fr} {h : AW} (S : Sub F F') (st : List Item) : kExit P fn Q go id st F h → RestS P fn Q st (.exit id) F' h := by
  induction st with
  | nil => exact fun H => H.elim
  | cons i st ih =>
    intro H
    cases i with
    | seq c => exact ih H
    | block j =>
      simp only [kExit] at H
      simp only [RestS, outOf]
      split at H
      · rename_i e; rw [e]; exact kPop_ok hgo S st H
      · rename_i e; rw [e]; exact ih H
    | loop b => exact ih H
theorem getAll_spec {F : Fr} : ∀ {L : List Nat} {vs : List Value}, getAll F L = some vs → ∀ (j t : Nat), L[j]? = some t → F.t.get? t = vs[j]? ∧ (F.t.get? t).isSome = true
  | [], vs, _, j, t, ht => by simp at ht
  | t' :: L, vs, hg, j, t, ht => by
    simp only [getAll] at hg
    split at hg
    · rename_i v r h1 h2
      cases hg
      cases j with
      | zero => simp at ht; subst ht; simp [h1]
      | succ j => simp at ht ⊢; exact getAll_spec h2 j t ht
    · cases hg
theorem kRun_ok : ∀ (n : Nat) (c : Code) (st : List Item) (F : Fr) (h : AW), kRun P fn ann Q n c st F h → ∀ F', Sub F F' → RestC P fn Q c st F' h
  | 0, _, _, _, _, H, _, _ => H.elim
  | n + 1, c, st, F, h, H, F', S => by
    simp only [kRun] at H
    split at H
    · exact ⟨_, F', h, Runs.skip, kPop_ok (kRun_ok n) S _ H⟩
    · exact ⟨_, F', h, Runs.label, kPop_ok (kRun_ok n) S _ H⟩
    · split at H
      · rename_i L _
        split at H
        · rename_i vs hv hn
          refine H F' (by rw [← S.n]; exact Nat.eq_of_beq_eq_true hn) fun j t ht => ?_
          obtain ⟨a, b⟩ := getAll_spec hv j t ht
          rw [S.get b, a]
        · exact H.elim
      · obtain ⟨F1, F1', h1, r, S1, k⟩ := kRegion_ok H S
        exact ⟨_, F1', h1, r, kPop_ok (kRun_ok n) S1 _ k⟩
    · exact restC_seq (kRun_ok n _ _ _ _ H _ S)
    · unfold kCond at H
      split at H
      · split at H
        · rename_i t _ v hv
          obtain ⟨b, rfl, H⟩ := vBool_ok H
          have hv' := S.t _ _ hv
          rcases bC_ok H with ⟨rfl, H⟩ | ⟨rfl, H⟩
          · obtain ⟨e, F1, h1, r, s⟩ := kRun_ok n _ _ _ _ H _ (setB_sub S hv')
            exact ⟨e, F1, h1, Runs.cond_t (by simp only [Fr.ev, hv']) r, s⟩
          · obtain ⟨e, F1, h1, r, s⟩ := kRun_ok n _ _ _ _ H _ (setB_sub S hv')
            exact ⟨e, F1, h1, Runs.cond_f (by simp only [Fr.ev, hv']) r, s⟩
        · exact H.elim
      · obtain ⟨b, rfl, H⟩ := vBool_ok H
        rcases bC_ok H with ⟨rfl, H⟩ | ⟨rfl, H⟩
        · obtain ⟨e, F1, h1, r, s⟩ := kRun_ok n _ _ _ _ H _ S
          exact ⟨e, F1, h1, Runs.cond_t rfl r, s⟩
        · obtain ⟨e, F1, h1, r, s⟩ := kRun_ok n _ _ _ _ H _ S
          exact ⟨e, F1, h1, Runs.cond_f rfl r, s⟩
      · exact H.elim
    · exact restC_block (kRun_ok n _ _ _ _ H _ S)
    · exact restC_loop (kRun_ok n _ _ _ _ H _ S)
    · obtain ⟨e, F1, h1, r, s⟩ := kRun_ok n _ _ _ _ H _ S
      exact ⟨e, F1, h1, Runs.scope r, s⟩
    · exact ⟨_, F', h, Runs.exit, kExit_ok (kRun_ok n) S _ H⟩
    · exact ⟨_, F', h, Runs.ret, restS_ret (kRet_ok S H) st⟩
    · exact H.elim

theorem frOf_get {n : Nat} : ∀ {L : List Nat} {vs : List Value} {T0 : T Value} {t : Nat} {v : Value}, L.length = vs.length → (frOf n L vs T0).t.get? t = some v → T0.get? t = some v ∨ ∃ j : Nat, L[j]? = some t ∧ vs[j]? = some v
  | [], [], T0, t, v, _, h => .inl h
  | t' :: L, v' :: vs, T0, t, v, hl, h => by
    simp only [frOf] at h
    rcases frOf_get (by simpa using hl) h with e | ⟨j, a, b⟩
    · rw [T.get?_set] at e
      split at e
      · rename_i e'; cases e; exact .inr ⟨0, by simp [e'], by simp⟩
      · exact .inl e
    · exact .inr ⟨j + 1, by simpa using a, by simpa using b⟩
  | [], _ :: _, _, _, _, hl, _ => by simp at hl
  | _ :: _, [], _, _, _, hl, _ => by simp at hl
theorem frOf_n {n : Nat} : ∀ {L : List Nat} {vs : List Value} {T0 : T Value}, (frOf n L vs T0).n = n
  | [], _, _ => by simp [frOf]
  | _ :: _, [], _ => by simp [frOf]
  | t' :: L, v' :: vs, T0 => by simp only [frOf]; exact frOf_n

/-- From a place on: its own region, and what follows. -/
theorem unit_ok {f id n : Nat} {L : List Nat} {vs : List Value} {h : AW} (H : kUnit P f id n ann L vs h Q) : unitAt P f id L vs h Q := by
  unfold kUnit at H
  unfold unitAt
  split at H
  · rename_i fn c hb
    try rw [hb]
    try simp only
    split at H
    · rename_i i ops d st hl
      try rw [hl]
      try simp only
      split at H
      · rename_i hlen
        intro F hn hF
        have S : Sub (frOf fn.ntmps L vs .nil) F := by
          refine ⟨by rw [frOf_n, hn], fun t v hv => ?_⟩
          rcases frOf_get (Nat.eq_of_beq_eq_true hlen) hv with e | ⟨j, a, b⟩
          · simp [T.get?] at e
          · rw [hF j t a, b]
        obtain ⟨F1, F1', h1, r, S1, k⟩ := kRegion_ok H S
        exact ⟨_, F1', h1, r, kPop_ok (kRun_ok n) S1 _ k⟩
      · exact H.elim
    · exact H.elim
  · exact H.elim

/-- A call of a function. -/
theorem fn_ok {f n : Nat} {args : List Value} {h : AW} (H : kFn P f n ann args h Q) : EvQ P f args h Q := by
  unfold kFn at H
  split at H
  · rename_i fn c hb
    split at H
    · rename_i hle
      obtain ⟨e, F1, h1, r, s⟩ := kRun_ok n _ _ _ _ H _ (Sub.refl _)
      obtain ⟨hx, v, hv, q⟩ := s
      refine ⟨v, h1, Evals.of_runs hb (e := e) (F' := F1) ?_ hx ?_, q⟩
      · rw [show Nat.max args.length fn.ntmps = fn.ntmps from Nat.max_eq_right (Nat.le_of_ble_eq_true hle)]; exact r
      · unfold finV at hv; exact hv
    · exact H.elim
  · exact H.elim
end Go.Abs
end

section
/- Reasoning about the heap: what is owned, what stays. -/
namespace Go.Abs

/-! Words on what is known. -/
section
variable {α : Type}
@[simp] theorem oB_some {a : α} {f : α → Prop} : oB (some a) f = f a := rfl
@[simp] theorem oB_none {f : α → Prop} : oB none f = False := rfl
@[simp] theorem oP_some {v : Value} {h : AW} {f : Value → AW → Prop} : oP (some (v, h)) f = f v h := rfl
@[simp] theorem bC_true {p q : Prop} : bC true p q = p := rfl
@[simp] theorem bC_false {p q : Prop} : bC false p q = q := rfl
@[simp] theorem vInt_int {k : IntKind} {n : Int} {f : Int → Prop} : vInt k (.int k n) f = f n := by
  unfold vInt
  simp
@[simp] theorem vBool_bool {b : Bool} {f : Bool → Prop} : vBool (.bool b) f = f b := rfl
@[simp] theorem vStr_string {s : ByteArray} {f : ByteArray → Prop} : vStr (.string s) f = f s := rfl
@[simp] theorem vPtr_pointer {p : Option Addr} {f : Option Addr → Prop} : vPtr (.pointer p) f = f p := rfl
@[simp] theorem vSl_slice {a : Option Addr} {l c : Nat} {f : Option Addr → Nat → Nat → Prop} : vSl (.slice a l c) f = f a l c := rfl
@[simp] theorem vMap_map {r : Option Nat} {f : Option Nat → Prop} : vMap (.map r) f = f r := rfl
@[simp] theorem vFun_func {i : FuncId} {a b : Array Value} {f : FuncId → List Value → List Value → Prop} : vFun (.func (.func i) a b) f = f i a.toList b.toList := rfl
@[simp] theorem vAgg_agg {a : Array Value} {f : List Value → Prop} : vAgg (.agg a) f = f a.toList := rfl
@[simp] theorem vTup_tuple {a : Array Value} {f : List Value → Prop} : vTup (.tuple a) f = f a.toList := rfl
@[simp] theorem lC_cons {v : Value} {l : List Value} {f : Value → List Value → Prop} : lC (v :: l) f = f v l := rfl
@[simp] theorem lN_nil {p : Prop} : lN [] p = p := rfl
@[simp] theorem aP_some {i off : Nat} {f : Nat → Nat → Prop} : aP (some ⟨i, off, none⟩) f = f i off := rfl
@[simp] theorem shO_none {n : Nat} : shO none n = some none := rfl
@[simp] theorem shO_some {i off n : Nat} : shO (some ⟨i, off, none⟩) n = some (some ⟨i, off + n, none⟩) := rfl
end
theorem natIdx_eq {j n : Nat} (h : j < n) : natIdx (j : Int) n = some j := by
  unfold natIdx
  show (match Nat.ble (j + 1) n with | true => some j | false => none) = some j
  rw [Nat.ble_eq_true_of_le h]
theorem natBnd_eq {j n : Nat} (h : j ≤ n) : natBnd (j : Int) n = some j := by
  unfold natBnd
  show (match Nat.ble j n with | true => some j | false => none) = some j
  rw [Nat.ble_eq_true_of_le h]
theorem bEq_iff {x y : ByteArray} : bEq x y = true ↔ x = y := by
  unfold bEq
  rw [beq_iff_eq]
  refine ⟨fun h => ?_, fun h => by rw [h]⟩
  apply ByteArray.ext
  exact Array.ext' h
@[simp] theorem bEq_self {x : ByteArray} : bEq x x = true := bEq_iff.2 rfl
theorem bEq_false {x y : ByteArray} : bEq x y = false ↔ x ≠ y := by
  rw [← Bool.not_eq_true, bEq_iff]
theorem bC_iff {b : Bool} {p q : Prop} (h1 : b = true → p) (h2 : b = false → q) : bC b p q := by
  cases b
  · exact h2 rfl
  · exact h1 rfl
theorem wrap_small {n : Int} (h1 : -9223372036854775808 ≤ n) (h2 : n < 9223372036854775808) : IntKind.wrap .i64 n = n := by
  unfold IntKind.wrap
  simp [IntKind.signed, IntKind.bits]
  omega

/-! What stays. -/
/-- Each number's mark: to whom it belongs. -/
abbrev Paint := Nat → Nat

/-- Between two heaps only what bears marks of S was turned. -/
structure Chg (S : Nat → Prop) (h : AW) (μ : Paint) (h' : AW) (μ' : Paint) : Prop where
  le : h.next ≤ h'.next
  mark : ∀ i, i < h.next → μ' i = μ i
  obj : ∀ i, i < h.next → ¬ S (μ i) → h'.objs.get? i = h.objs.get? i
  fam : ∀ i, i < h.next → ¬ S (μ i) → h'.fams.get? i = h.fams.get? i

variable {S S' : Nat → Prop} {h h' h'' : AW} {μ μ' μ'' : Paint}
theorem Chg.refl : Chg S h μ h μ := ⟨Nat.le_refl _, fun _ _ => rfl, fun _ _ _ => rfl, fun _ _ _ => rfl⟩
theorem Chg.trans (a : Chg S h μ h' μ') (b : Chg S h' μ' h'' μ'') : Chg S h μ h'' μ'' := by
  refine ⟨Nat.le_trans a.le b.le, fun i hi => ?_, fun i hi hs => ?_, fun i hi hs => ?_⟩
  · rw [b.mark i (Nat.lt_of_lt_of_le hi a.le), a.mark i hi]
  · rw [b.obj i (Nat.lt_of_lt_of_le hi a.le) (by rw [a.mark i hi]; exact hs), a.obj i hi hs]
  · rw [b.fam i (Nat.lt_of_lt_of_le hi a.le) (by rw [a.mark i hi]; exact hs), a.fam i hi hs]
theorem Chg.mono (a : Chg S h μ h' μ') (hs : ∀ n, S n → S' n) : Chg S' h μ h' μ' :=
  ⟨a.le, a.mark, fun i hi hn => a.obj i hi fun x => hn (hs _ x), fun i hi hn => a.fam i hi fun x => hn (hs _ x)⟩

/-- New numbers bear the mark c. -/
def mkNew (μ : Paint) (n c : Nat) : Paint := fun i => if i < n then μ i else c

/-! Blocks. -/
/-- The block i has just these cells. -/
def VarAt (h : AW) (i : Nat) (l : List Value) : Prop := ∃ t, h.objs.get? i = some (.var t l.length false) ∧ ∀ j, j < l.length → t.get? j = l[j]?

theorem VarAt.rd {i : Nat} {l : List Value} (V : VarAt h i l) (j : Nat) : h.rd i j = l[j]? := by
  obtain ⟨t, ho, hc⟩ := V
  unfold AW.rd
  rw [ho]
  simp only
  by_cases hj : j < l.length
  · rw [Nat.ble_eq_true_of_le hj]; exact hc j hj
  · rw [show Nat.ble (j + 1) l.length = false from by
      rw [← Bool.not_eq_true, Nat.ble_eq]; omega]
    rw [List.getElem?_eq_none (by omega)]
theorem VarAt.wr {i j : Nat} {l : List Value} {v : Value} (V : VarAt h i l) (hj : j < l.length) (h1 : oneCell v = true) : ∃ t', h.wr i j v = some { h with objs := h.objs.set i (.var t' l.length false) } ∧ VarAt { h with objs := h.objs.set i (.var t' l.length false) } i (l.set j v) := by
  obtain ⟨t, ho, hc⟩ := V
  refine ⟨t.set j v, ?_, t.set j v, ?_, fun k hk => ?_⟩
  · unfold AW.wr
    rw [h1, ho]
    simp only
    rw [Nat.ble_eq_true_of_le hj]
  · simp only [List.length_set]; exact T.get?_set_same _ _ _
  · rw [T.get?_set, List.getElem?_set]
    rw [List.length_set] at hk
    by_cases e : k = j
    · subst e; simp [hk]
    · rw [if_neg e, if_neg (fun x => e x.symm)]; exact hc k hk
theorem VarAt.lt {i : Nat} {l : List Value} (V : VarAt h i l) (e : h'.objs.get? i = h.objs.get? i) : VarAt h' i l := by
  obtain ⟨t, ho, hc⟩ := V
  exact ⟨t, by rw [e]; exact ho, hc⟩
theorem VarAt.keep {i : Nat} {l : List Value} (V : VarAt h i l) (hi : i < h.next) (hs : ¬ S (μ i)) (C : Chg S h μ h' μ') : VarAt h' i l := V.lt (C.obj i hi hs)
theorem addVar_at {l : List Value} : VarAt (h.addVar l) h.next l := by
  refine ⟨T.ofList l, ?_, fun j _ => T.get?_ofList _ _⟩
  simp only [AW.addVar]
  exact T.get?_set_same _ _ _
theorem addVar_chg {l : List Value} {c : Nat} : Chg S h μ (h.addVar l) (mkNew μ h.next c) := by
  refine ⟨Nat.le_succ _, fun i hi => by simp [mkNew, hi], fun i hi _ => ?_, fun i hi _ => rfl⟩
  simp only [AW.addVar]
  exact T.get?_set_ne _ _ (by omega)
theorem addVar_next {l : List Value} : (h.addVar l).next = h.next + 1 := rfl
theorem mkNew_new {n c i : Nat} (hi : n ≤ i) : mkNew μ n c i = c := by simp [mkNew]; omega
theorem mkNew_old {n c i : Nat} (hi : i < n) : mkNew μ n c i = μ i := by simp [mkNew, hi]
/-- A block written. -/
theorem VarAt.chg {i j : Nat} {l : List Value} {v : Value} (V : VarAt h i l) (hj : j < l.length) (h1 : oneCell v = true) (hs : S (μ i)) : ∃ h', h.wr i j v = some h' ∧ VarAt h' i (l.set j v) ∧ Chg S h μ h' μ ∧ h'.next = h.next := by
  obtain ⟨t', e, V'⟩ := V.wr hj h1
  refine ⟨_, e, V', ⟨Nat.le_refl _, fun _ _ => rfl, fun k hk hn => ?_, fun _ _ _ => rfl⟩, rfl⟩
  exact T.get?_set_ne _ _ (fun e => hn (by rw [e]; exact hs))

/-! Slices that are read. -/
/-- The cells from an address on. -/
def Sl (h : AW) (a : Option Addr) (vs : List Value) : Prop :=
  (a = none ∧ vs = []) ∨ ∃ i off, a = some ⟨i, off, none⟩ ∧ ∀ j, j < vs.length → h.rd i (off + j) = vs[j]?

theorem Sl.get {a : Option Addr} {vs : List Value} (H : Sl h a vs) {j : Nat} {v : Value} (hv : vs[j]? = some v) {f : Nat → Nat → Prop} (hf : ∀ i off, a = some ⟨i, off, none⟩ → h.rd i (off + j) = some v → f i off) : aP a f := by
  rcases H with ⟨_, rfl⟩ | ⟨i, off, rfl, hc⟩
  · simp at hv
  · simp only [aP_some]
    have : j < vs.length := by
      rcases Nat.lt_or_ge j vs.length with x | x
      · exact x
      · rw [List.getElem?_eq_none x] at hv; cases hv
    exact hf i off rfl (by rw [hc j this]; exact hv)
/-- An element of one cell. -/
theorem Sl.at1 {a : Option Addr} {vs : List Value} (H : Sl h a vs) {z : Int} {j n : Nat} {v : Value} (hz : z = j) (hn : n = vs.length) (hv : vs[j]? = some v) {f : Value → Prop} (hf : f v) : aP a fun i off => oB (natIdx z n) fun j => oB (h.rd i (off + j * 1)) f := by
  subst hz
  have hj : j < vs.length := by
    rcases Nat.lt_or_ge j vs.length with x | x
    · exact x
    · rw [List.getElem?_eq_none x] at hv; cases hv
  refine H.get hv fun i off _ hr => ?_
  rw [natIdx_eq (by omega)]
  simp only [oB_some, Nat.mul_one]
  rw [hr]
  exact hf
/-- An element's address. -/
theorem Sl.addr {a : Option Addr} {vs : List Value} (H : Sl h a vs) {z : Int} {j n k sz : Nat} {v : Value} (hz : z = j) (hn : n * sz = vs.length) (hk : k < sz) (hj : j < n) (hv : vs[j * sz + k]? = some v) {f : Nat → Nat → Nat → Prop} (hf : ∀ i off, a = some ⟨i, off, none⟩ → h.rd i (off + (j * sz + k)) = some v → f i off j) :
    aP a fun i off => oB (natIdx z n) fun j => f i off j := by
  subst hz
  refine H.get hv fun i off e hr => ?_
  rw [natIdx_eq hj]
  exact hf i off e hr
theorem Sl.rdN {vs : List Value} {i off : Nat} (H : ∀ j, j < vs.length → h.rd i (off + j) = vs[j]?) : h.rdN i off vs.length = some vs := by
  induction vs generalizing off with
  | nil => rfl
  | cons v vs ih =>
    have h0 := H 0 (by simp)
    simp only [Nat.add_zero, List.getElem?_cons_zero] at h0
    simp only [List.length_cons, AW.rdN, h0]
    rw [ih (off := off + 1) fun j hj => by have := H (j + 1) (by simpa using hj); rwa [List.getElem?_cons_succ, show off + (j + 1) = off + 1 + j from by omega] at this]
end Go.Abs
end

section
/- Slices that are owned: written, cut, appended to. -/
namespace Go.Abs
variable {S : Nat → Prop} {h h' : AW} {μ μ' : Paint} {c : Nat} {P : Program}

def Kind (h : AW) (μ : Paint) (c i off cap sz : Nat) : Prop :=
  (∃ t n ro, h.objs.get? i = some (.var t n ro) ∧ off + cap * sz ≤ n ∧ (ro = true → cap = 0)) ∨
  (∃ f g lo hi t ext frz, h.objs.get? i = some (.row f g lo hi sz t) ∧ h.fams.get? f = some ⟨g, ext, frz⟩ ∧ f < h.next ∧ μ f = c ∧ lo ≤ off ∧ off + cap * sz = hi ∧ frz ≤ lo)

/-- The cells vs stand at a, and there is room for cap elements of sz cells; all of it bears the mark c. -/
structure OM (h : AW) (μ : Paint) (c : Nat) (a : Option Addr) (cap sz : Nat) (vs : List Value) : Prop where
  le : vs.length ≤ cap * sz
  one : allOne vs = true
  mem : (a = none ∧ cap = 0) ∨ ∃ i off, a = some ⟨i, off, none⟩ ∧ i < h.next ∧ μ i = c ∧ (∀ j, j < vs.length → h.rd i (off + j) = vs[j]?) ∧ Kind h μ c i off cap sz

variable {a : Option Addr} {cap sz : Nat} {vs : List Value}
theorem OM.nil : OM h μ c none 0 sz [] := ⟨by simp, rfl, .inl ⟨rfl, rfl⟩⟩
theorem OM.sl (O : OM h μ c a cap sz vs) : Sl h a vs := by
  rcases O.mem with ⟨e, rfl⟩ | ⟨i, off, e, _, _, r, _⟩
  · refine .inl ⟨e, List.eq_nil_of_length_eq_zero ?_⟩
    have := O.le; omega
  · exact .inr ⟨i, off, e, r⟩
theorem rd_same {i off : Nat} (ho : h'.objs.get? i = h.objs.get? i) (hf : ∀ f g lo hi z t, h.objs.get? i = some (.row f g lo hi z t) → h'.fams.get? f = h.fams.get? f) : h'.rd i off = h.rd i off := by
  unfold AW.rd
  rw [ho]
  split
  · rfl
  · rename_i f g lo hi z t e
    rw [hf _ _ _ _ _ _ e]
  · rfl
theorem OM.keep (O : OM h μ c a cap sz vs) (hs : ¬ S c) (C : Chg S h μ h' μ') : OM h' μ' c a cap sz vs := by
  refine ⟨O.le, O.one, ?_⟩
  rcases O.mem with x | ⟨i, off, e, hi, hm, r, k⟩
  · exact .inl x
  · have ho := C.obj i hi (by rw [hm]; exact hs)
    refine .inr ⟨i, off, e, Nat.lt_of_lt_of_le hi C.le, by rw [C.mark i hi, hm], fun j hj => ?_, ?_⟩
    · rw [← r j hj]
      refine rd_same ho fun f g lo hi' z t hrow => ?_
      rcases k with ⟨t', n, ro, h1, _⟩ | ⟨f', g', lo', hi'', t', ext, frz, h1, h2, h3, h4, _⟩
      · rw [h1] at hrow; cases hrow
      · rw [h1] at hrow; cases hrow
        exact C.fam f h3 (by rw [h4]; exact hs)
    · rcases k with ⟨t', n, ro, h1, h2⟩ | ⟨f', g', lo', hi'', t', ext, frz, h1, h2, h3, h4, h5⟩
      · exact .inl ⟨t', n, ro, by rw [ho]; exact h1, h2⟩
      · exact .inr ⟨f', g', lo', hi'', t', ext, frz, by rw [ho]; exact h1, by rw [C.fam f' h3 (by rw [h4]; exact hs)]; exact h2, Nat.lt_of_lt_of_le h3 C.le, by rw [C.mark f' h3, h4], h5⟩
/-- The cells vs stand at a, and it all bears the mark c. -/
def SM (h : AW) (μ : Paint) (c : Nat) (a : Option Addr) (vs : List Value) : Prop :=
  (a = none ∧ vs = []) ∨ ∃ i off, a = some ⟨i, off, none⟩ ∧ i < h.next ∧ μ i = c ∧ (∀ f g lo hi z t, h.objs.get? i = some (.row f g lo hi z t) → f < h.next ∧ μ f = c) ∧ ∀ j, j < vs.length → h.rd i (off + j) = vs[j]?
theorem SM.sl (X : SM h μ c a vs) : Sl h a vs := by
  rcases X with x | ⟨i, off, e, _, _, _, r⟩
  · exact .inl x
  · exact .inr ⟨i, off, e, r⟩
theorem OM.sm (O : OM h μ c a cap sz vs) : SM h μ c a vs := by
  rcases O.mem with ⟨e, rfl⟩ | ⟨i, off, e, h1, h2, r, k⟩
  · refine .inl ⟨e, List.eq_nil_of_length_eq_zero ?_⟩
    have := O.le; omega
  · refine .inr ⟨i, off, e, h1, h2, fun f g lo hi z t hr => ?_, r⟩
    rcases k with ⟨t', n, ro, h3, _⟩ | ⟨f', g', lo', hi', t', ext, frz, h3, _, h5, h6, _⟩
    · rw [h3] at hr; cases hr
    · rw [h3] at hr; cases hr; exact ⟨h5, h6⟩
theorem SM.keep (X : SM h μ c a vs) (hs : ¬ S c) (C : Chg S h μ h' μ') : SM h' μ' c a vs := by
  rcases X with x | ⟨i, off, e, h1, h2, h3, r⟩
  · exact .inl x
  · have ho := C.obj i h1 (by rw [h2]; exact hs)
    refine .inr ⟨i, off, e, Nat.lt_of_lt_of_le h1 C.le, by rw [C.mark i h1, h2], fun f g lo hi z t hr => ?_, fun j hj => ?_⟩
    · rw [ho] at hr
      obtain ⟨h4, h5⟩ := h3 f g lo hi z t hr
      exact ⟨Nat.lt_of_lt_of_le h4 C.le, by rw [C.mark f h4, h5]⟩
    · rw [← r j hj]
      refine rd_same ho fun f g lo hi z t hr => ?_
      obtain ⟨h4, h5⟩ := h3 f g lo hi z t hr
      exact C.fam f h4 (by rw [h5]; exact hs)
theorem SM.nil : SM h μ c none [] := .inl ⟨rfl, rfl⟩
theorem VarAt.sm {i : Nat} {l : List Value} (V : VarAt h i l) (hi : i < h.next) (hm : μ i = c) : SM h μ c (some ⟨i, 0, none⟩) l := by
  refine .inr ⟨i, 0, rfl, hi, hm, fun f g lo hi z t hr => ?_, fun j _ => by rw [Nat.zero_add, V.rd]⟩
  obtain ⟨t', ho, _⟩ := V
  rw [ho] at hr; cases hr
theorem allOne_append : ∀ {l m : List Value}, allOne (l ++ m) = (allOne l && allOne m)
  | [], m => rfl
  | v :: l, m => by
    simp only [List.cons_append, allOne]
    cases oneCell v
    · rfl
    · exact allOne_append
theorem allOne_get : ∀ {l : List Value} {j : Nat} {v : Value}, allOne l = true → l[j]? = some v → oneCell v = true
  | [], j, v, _, e => by simp at e
  | w :: l, j, v, ha, e => by
    simp only [allOne] at ha
    split at ha
    · rename_i h1
      cases j with
      | zero => simp at e; subst e; exact h1
      | succ j => simp at e; exact allOne_get ha e
    · cases ha
theorem allOne_of : ∀ {l : List Value}, (∀ v, v ∈ l → oneCell v = true) → allOne l = true
  | [], _ => rfl
  | w :: l, H => by
    simp only [allOne]
    rw [H w (by simp)]
    exact allOne_of fun v hv => H v (by simp [hv])
theorem allOne_mem {l : List Value} (ha : allOne l = true) {v : Value} (hv : v ∈ l) : oneCell v = true := by
  obtain ⟨j, hj, e⟩ := List.getElem_of_mem hv
  exact allOne_get ha (j := j) (by rw [List.getElem?_eq_getElem hj, e])
/-- Written within. -/
theorem OM.wr {i off : Nat} (O : OM h μ c (some ⟨i, off, none⟩) cap sz vs) {j : Nat} {v : Value} (hj : j < cap * sz) (hv : j ≤ vs.length) (h1 : oneCell v = true) :
    ∃ h', h.wr i (off + j) v = some h' ∧ OM h' μ c (some ⟨i, off, none⟩) cap sz (if j < vs.length then vs.set j v else vs ++ [v]) ∧ Chg (· = c) h μ h' μ ∧ h'.next = h.next := by
  rcases O.mem with ⟨e, _⟩ | ⟨i', off', e, hi, hm, r, k⟩
  · cases e
  cases e
  have hone : allOne (if j < vs.length then vs.set j v else vs ++ [v]) = true := by
    split
    · refine allOne_of fun w hw => ?_
      rcases List.mem_or_eq_of_mem_set hw with x | rfl
      · exact allOne_mem O.one x
      · exact h1
    · rw [allOne_append, O.one]; simp [allOne, h1]
  have hlen : (if j < vs.length then vs.set j v else vs ++ [v]).length ≤ cap * sz := by
    split
    · rw [List.length_set]; exact O.le
    · rw [List.length_append]; simp; omega
  have hget : ∀ k, k < (if j < vs.length then vs.set j v else vs ++ [v]).length → (if j < vs.length then vs.set j v else vs ++ [v])[k]? = if k = j then some v else vs[k]? := by
    intro k hk
    split
    · rename_i hlt
      rw [List.getElem?_set]
      by_cases e : k = j
      · subst e; simp [hlt]
      · rw [if_neg (fun x => e x.symm), if_neg e]
    · rename_i hge
      have : j = vs.length := by omega
      subst this
      by_cases e : k = vs.length
      · subst e; simp
      · rw [if_neg e, List.getElem?_append_left]
        rw [if_neg hge] at hk
        simp at hk; omega
  have hlen2 : ∀ k, k < (if j < vs.length then vs.set j v else vs ++ [v]).length → k ≠ j → k < vs.length := by
    intro k hk hne
    split at hk
    · rwa [List.length_set] at hk
    · simp at hk; omega
  rcases k with ⟨t, n, ro, ho, hb, hro⟩ | ⟨f, g, lo, hi', t, ext, frz, ho, hf, hfn, hfm, h5, h6, h7⟩
  · have : ro = false := by
      cases ro
      · rfl
      · have := hro rfl; subst this; simp at hj
    subst this
    refine ⟨{ h with objs := h.objs.set i (.var (t.set (off + j) v) n false) }, ?_, ⟨hlen, hone, .inr ⟨i, off, rfl, hi, hm, fun k hk => ?_, .inl ⟨t.set (off + j) v, n, false, T.get?_set_same _ _ _, hb, fun e => (by cases e)⟩⟩⟩, ⟨Nat.le_refl _, fun _ _ => rfl, fun k hk hn => T.get?_set_ne _ _ (fun e => hn (by rw [e, hm])), fun _ _ _ => rfl⟩, rfl⟩
    · unfold AW.wr
      rw [h1, ho]; simp only
      rw [Nat.ble_eq_true_of_le (show off + j + 1 ≤ n by omega)]
    · rw [hget k hk]
      unfold AW.rd
      simp only [T.get?_set_same]
      have hkc : k < cap * sz := Nat.lt_of_lt_of_le hk hlen
      rw [Nat.ble_eq_true_of_le (show off + k + 1 ≤ n by omega)]
      simp only
      rw [T.get?_set]
      by_cases e : k = j
      · subst e; simp
      · rw [if_neg (by omega), if_neg e]
        have := r k (hlen2 k hk e)
        unfold AW.rd at this
        rw [ho] at this; simp only at this
        rw [Nat.ble_eq_true_of_le (show off + k + 1 ≤ n by omega)] at this
        exact this
  · refine ⟨{ h with objs := h.objs.set i (.row f (g + 1) lo hi' sz (t.set (off + j) v)), fams := h.fams.set f { gen := g + 1, ext := ext, frz := frz } }, ?_, ⟨hlen, hone, .inr ⟨i, off, rfl, hi, hm, fun k hk => ?_, .inr ⟨f, g + 1, lo, hi', t.set (off + j) v, ext, frz, T.get?_set_same _ _ _, T.get?_set_same _ _ _, hfn, hfm, h5, h6, h7⟩⟩⟩, ⟨Nat.le_refl _, fun _ _ => rfl, fun k hk hn => T.get?_set_ne _ _ (fun e => hn (by rw [e, hm])), fun k hk hn => T.get?_set_ne _ _ (fun e => hn (by rw [e, hfm]))⟩, rfl⟩
    · unfold AW.wr
      rw [h1, ho]; simp only
      rw [hf]; simp only
      rw [Nat.beq_refl, Nat.ble_eq_true_of_le (show lo ≤ off + j by omega), Nat.ble_eq_true_of_le (show off + j + 1 ≤ hi' by omega), Nat.ble_eq_true_of_le (show frz ≤ off + j by omega)]
      rfl
    · rw [hget k hk]
      unfold AW.rd
      simp only [T.get?_set_same]
      have hkc : k < cap * sz := Nat.lt_of_lt_of_le hk hlen
      rw [Nat.beq_refl, Nat.ble_eq_true_of_le (show lo ≤ off + k by omega), Nat.ble_eq_true_of_le (show off + k + 1 ≤ hi' by omega)]
      simp only [Bool.and_self]
      rw [T.get?_set]
      by_cases e : k = j
      · subst e; simp
      · rw [if_neg (by omega), if_neg e]
        have := r k (hlen2 k hk e)
        unfold AW.rd at this
        rw [ho] at this; simp only at this
        rw [hf] at this; simp only at this
        rw [Nat.beq_refl, Nat.ble_eq_true_of_le (show lo ≤ off + k by omega), Nat.ble_eq_true_of_le (show off + k + 1 ≤ hi' by omega)] at this
        exact this
/-- Written behind, one after the other. -/
theorem OM.wrL {i off : Nat} : ∀ (new : List Value) {h : AW} {vs : List Value}, OM h μ c (some ⟨i, off, none⟩) cap sz vs → vs.length + new.length ≤ cap * sz → allOne new = true →
    ∃ h', h.wrL i (off + vs.length) new = some h' ∧ OM h' μ c (some ⟨i, off, none⟩) cap sz (vs ++ new) ∧ Chg (· = c) h μ h' μ ∧ h'.next = h.next
  | [], h, vs, O, _, _ => ⟨h, rfl, by simpa using O, Chg.refl, rfl⟩
  | v :: new, h, vs, O, hle, ha => by
    simp only [allOne] at ha
    split at ha
    · rename_i h1
      simp only [List.length_cons] at hle
      obtain ⟨h2, e, O2, C, n2⟩ := O.wr (j := vs.length) (by omega) (Nat.le_refl _) h1
      rw [if_neg (Nat.lt_irrefl _)] at O2
      obtain ⟨h3, e3, O3, C3, n3⟩ := OM.wrL new O2 (by simp; omega) ha
      refine ⟨h3, ?_, by simpa using O3, C.trans C3, by rw [n3, n2]⟩
      simp only [AW.wrL]
      rw [e]; simp only
      rw [List.length_append] at e3
      simpa [Nat.add_assoc] using e3
    · cases ha
/-- The first elements, with all the room. -/
theorem OM.take (O : OM h μ c a cap sz vs) (k : Nat) : OM h μ c a cap sz (vs.take k) := by
  refine ⟨Nat.le_trans (by simp; omega) O.le, allOne_of fun v hv => allOne_mem O.one (List.mem_of_mem_take hv), ?_⟩
  rcases O.mem with x | ⟨i, off, e, hi, hm, r, kk⟩
  · exact .inl x
  · refine .inr ⟨i, off, e, hi, hm, fun j hj => ?_, kk⟩
    rw [List.length_take] at hj
    rw [r j (by omega), List.getElem?_take_of_lt (by omega)]
/-- From an element on. -/
theorem OM.drop {i off : Nat} (O : OM h μ c (some ⟨i, off, none⟩) cap sz vs) {k : Nat} (hk : k ≤ cap) : OM h μ c (some ⟨i, off + k * sz, none⟩) (cap - k) sz (vs.drop (k * sz)) := by
  have hmul : (cap - k) * sz + k * sz = cap * sz := by rw [← Nat.add_mul, Nat.sub_add_cancel hk]
  refine ⟨by rw [List.length_drop]; have := O.le; omega, allOne_of fun v hv => allOne_mem O.one (List.mem_of_mem_drop hv), ?_⟩
  rcases O.mem with ⟨e, _⟩ | ⟨i', off', e, hi, hm, r, kk⟩
  · cases e
  cases e
  refine .inr ⟨i, off + k * sz, rfl, hi, hm, fun j hj => ?_, ?_⟩
  · rw [List.length_drop] at hj
    rw [show off + k * sz + j = off + (k * sz + j) from by omega, r _ (by omega), List.getElem?_drop]
  · rcases kk with ⟨t, n, ro, h1, h2, h3⟩ | ⟨f, g, lo, hi', t, ext, frz, h1, h2, h3, h4, h5, h6, h7⟩
    · exact .inl ⟨t, n, ro, h1, by omega, fun e => by have := h3 e; omega⟩
    · exact .inr ⟨f, g, lo, hi', t, ext, frz, h1, h2, h3, h4, by omega, by omega, h7⟩
theorem OM.drop_none {k : Nat} (O : OM h μ c none cap sz vs) : OM h μ c none (cap - k) sz (vs.drop (k * sz)) := by
  rcases O.mem with ⟨_, e⟩ | ⟨i', off', e, _⟩
  · subst e
    have : vs = [] := List.eq_nil_of_length_eq_zero (by have := O.le; omega)
    subst this
    simp
    exact OM.nil
  · cases e

/-- A new row. -/
theorem newRow_ok {new : List Value} {n : Nat} (ha : allOne new = true) (hn : new.length = n * sz) : ∃ h', h.newRow sz new = some (h.next, h') ∧ OM h' (mkNew μ h.next c) c (some ⟨h.next, 0, none⟩) n sz new ∧ Chg S h μ h' (mkNew μ h.next c) := by
  refine ⟨{ next := h.next + 2, objs := h.objs.set h.next (.row (h.next + 1) 0 0 new.length sz (T.ofList new)), fams := h.fams.set (h.next + 1) ⟨0, new.length, 0⟩ }, ?_, ⟨by omega, ha, .inr ⟨h.next, 0, rfl, by simp only; omega, mkNew_new (Nat.le_refl _), fun j hj => ?_, .inr ⟨h.next + 1, 0, 0, new.length, T.ofList new, new.length, 0, T.get?_set_same _ _ _, T.get?_set_same _ _ _, by simp only; omega, mkNew_new (by omega), Nat.le_refl _, by omega, Nat.le_refl _⟩⟩⟩, ⟨by simp only; omega, fun i hi => mkNew_old hi, fun i hi _ => T.get?_set_ne _ _ (by omega), fun i hi _ => T.get?_set_ne _ _ (by omega)⟩⟩
  · unfold AW.newRow; rw [ha]
  · unfold AW.rd
    simp only [T.get?_set_same]
    rw [Nat.beq_refl, Nat.ble_eq_true_of_le (show 0 ≤ 0 + j by omega), Nat.ble_eq_true_of_le (show 0 + j + 1 ≤ new.length by omega)]
    simp only [Bool.and_self, Nat.zero_add]
    exact T.get?_ofList _ _
theorem OM.rdN {i off l : Nat} (O : OM h μ c (some ⟨i, off, none⟩) cap sz vs) (hl : vs.length = l) : h.rdN i off l = some vs := by
  subst hl
  rcases O.mem with ⟨e, _⟩ | ⟨i', off', e, hi, hm, r, kk⟩
  · cases e
  cases e
  exact Sl.rdN r
theorem appendV_ok {e : TypeId} {te : TI} (h2 : tiOf P e = some te) (hz : te.zero.isSome = true) (O : OM h μ c a cap te.size vs) {l n : Nat} (hl : vs.length = l * te.size) {new : List Value} (hn : new.length = n * te.size) (ha : allOne new = true)
    (r1 : (l + n) * te.bytes ≤ 70368744177664) (r2 : l + n ≤ 4611686018427387904) (hcap : l ≤ cap) :
    ∃ a' cap' h', appendV P h e (.slice a l cap) n new = some (.slice a' (l + n) cap', h') ∧ OM h' (mkNew μ h.next c) c a' cap' te.size (vs ++ new) ∧ l + n ≤ cap' ∧ Chg (· = c) h μ h' (mkNew μ h.next c) := by
  have hlen : (vs ++ new).length = (l + n) * te.size := by rw [List.length_append, hl, hn, Nat.add_mul]
  unfold appendV
  rw [h2]
  simp only
  rw [hn, Nat.beq_refl]
  simp only
  have keepμ : ∀ {h' : AW}, h'.next = h.next → OM h' μ c a cap te.size (vs ++ new) → OM h' (mkNew μ h.next c) c a cap te.size (vs ++ new) := by
    intro h' hnx O'
    refine O'.keep (S := fun _ => False) (fun x => x) ⟨Nat.le_refl _, fun i hi => mkNew_old (by omega), fun _ _ _ => rfl, fun _ _ _ => rfl⟩
  by_cases hroom : l + n ≤ cap
  · rw [Nat.ble_eq_true_of_le hroom]
    simp only
    rcases O.mem with ⟨rfl, rfl⟩ | ⟨i, off, rfl, hi, hm, r, kk⟩
    · have h0 : n = 0 := by omega
      have : new = [] := List.eq_nil_of_length_eq_zero (by rw [hn, h0]; simp)
      subst this
      refine ⟨none, 0, h, rfl, ?_, hroom, ?_⟩
      · rw [List.append_nil]; exact O.keep (S := fun _ => False) (fun x => x) ⟨Nat.le_refl _, fun i hi => mkNew_old hi, fun _ _ _ => rfl, fun _ _ _ => rfl⟩
      · exact ⟨Nat.le_refl _, fun i hi => mkNew_old hi, fun _ _ _ => rfl, fun _ _ _ => rfl⟩
    · obtain ⟨h3, e3, O3, C3, n3⟩ := OM.wrL new O (by rw [hl, hn, ← Nat.add_mul]; exact Nat.mul_le_mul_right _ hroom) ha
      rw [hl] at e3
      refine ⟨some ⟨i, off, none⟩, cap, h3, by simp only; rw [e3], keepμ n3 O3, hroom, ⟨C3.le, fun i hi => mkNew_old hi, C3.obj, C3.fam⟩⟩
  · rw [show Nat.ble (l + n) cap = false from by rw [← Bool.not_eq_true, Nat.ble_eq]; exact hroom]
    simp only
    rw [show roomy (l + n) te.bytes = true from Nat.ble_eq_true_of_le r1, Nat.ble_eq_true_of_le r2, ha, hz]
    simp only [Bool.and_self]
    rcases O.mem with ⟨rfl, rfl⟩ | ⟨i, off, rfl, hi, hm, r, kk⟩
    · have h0 : l = 0 := by omega
      subst h0
      have : vs = [] := List.eq_nil_of_length_eq_zero (by simpa using hl)
      subst this
      obtain ⟨h3, e3, O3, C3⟩ := newRow_ok (h := h) (μ := μ) (c := c) (S := (· = c)) ha hn
      refine ⟨some ⟨h.next, 0, none⟩, n, h3, ?_, by simpa using O3, by omega, C3⟩
      simp only [e3]
      simp
    · simp only
      rcases kk with ⟨t, m, ro, ho, hb, hro⟩ | ⟨f, g, lo, hi', t, ext, frz, ho, hf, hfn, hfm, h5, h6, h7⟩
      · rw [ho]; simp only
        rw [O.rdN hl]; simp only
        obtain ⟨h3, e3, O3, C3⟩ := newRow_ok (h := h) (μ := μ) (c := c) (S := (· = c)) (new := vs ++ new) (n := l + n) (sz := te.size) (by rw [allOne_append, O.one, ha]; rfl) hlen
        rw [e3]
        exact ⟨some ⟨h.next, 0, none⟩, l + n, h3, rfl, O3, Nat.le_refl _, C3⟩
      · rw [ho]; simp only
        rw [hf]; simp only
        have hcs : l * te.size ≤ cap * te.size := Nat.mul_le_mul_right _ hcap
        rw [Nat.beq_refl, Nat.beq_refl, Nat.ble_eq_true_of_le h5, Nat.ble_eq_true_of_le (show off + l * te.size ≤ hi' by omega), show Nat.beq (off + cap * te.size) hi' = true from by rw [h6, Nat.beq_refl], Nat.ble_eq_true_of_le (show frz ≤ off + l * te.size by omega)]
        simp only [Bool.and_self]
        refine ⟨some ⟨h.next, off, none⟩, l + n, _, rfl, ⟨by rw [hlen]; exact Nat.le_refl _, by rw [allOne_append, O.one, ha]; rfl, .inr ⟨h.next, off, rfl, by simp only; omega, mkNew_new (Nat.le_refl _), fun j hj => ?_, .inr ⟨f, _, _, _, _, _, _, T.get?_set_same _ _ _, T.get?_set_same _ _ _, by simp only; omega, by rw [mkNew_old hfn, hfm], Nat.le_refl _, by rw [Nat.add_mul]; omega, by omega⟩⟩⟩, Nat.le_refl _, ⟨by simp only; omega, fun i hi => mkNew_old hi, fun k hk _ => T.get?_set_ne _ _ (by omega), fun k hk hnS => T.get?_set_ne _ _ (fun e => hnS (by rw [e, hfm]))⟩⟩
        unfold AW.rd
        simp only [T.get?_set_same]
        rw [List.length_append] at hj
        rw [Nat.beq_refl, Nat.ble_eq_true_of_le (show off ≤ off + j by omega), Nat.ble_eq_true_of_le (show off + j + 1 ≤ off + l * te.size + n * te.size by omega)]
        simp only [Bool.and_self]
        rw [T.get?_setL]
        by_cases hlt : j < vs.length
        · rw [if_neg (by omega), List.getElem?_append_left hlt]
          have := r j hlt
          unfold AW.rd at this
          rw [ho] at this; simp only at this
          rw [hf] at this; simp only at this
          rw [Nat.beq_refl, Nat.ble_eq_true_of_le (show lo ≤ off + j by omega), Nat.ble_eq_true_of_le (show off + j + 1 ≤ hi' by omega)] at this
          exact this
        · rw [if_pos (by omega), List.getElem?_append_right (by omega)]
          congr 1
          omega
/-- append of a slice to a slice that is owned. -/
theorem appendB_ok {ty e : TypeId} {te : TI} {ag : Bool} {s1 b1 : Nat} {z1 : Option Value} (h1 : tiOf P ty = some ⟨.slice e, ag, s1, b1, z1⟩) (h2 : tiOf P e = some te) (hz : te.zero.isSome = true) (hs : 0 < te.size) (O : OM h μ c a cap te.size vs) {l n m : Nat} (hl : vs.length = l * te.size)
    {b : Option Addr} {new : List Value} (X : Sl h b new) (hn : new.length = n * te.size) (ha : allOne new = true)
    (r1 : (l + n) * te.bytes ≤ 70368744177664) (r2 : l + n ≤ 4611686018427387904) (hcap : l ≤ cap) :
    ∃ a' cap' h', appendB P h ⟨[ty, ty]⟩ [.slice a l cap, .slice b n m] = some (.slice a' (l + n) cap', h') ∧ OM h' (mkNew μ h.next c) c a' cap' te.size (vs ++ new) ∧ l + n ≤ cap' ∧ Chg (· = c) h μ h' (mkNew μ h.next c) := by
  obtain ⟨a', cap', h', e', rest⟩ := appendV_ok (P := P) h2 hz O hl hn ha r1 r2 hcap
  refine ⟨a', cap', h', ?_, rest⟩
  unfold appendB
  simp only
  rw [h1]; simp only
  rw [h2]; simp only [isInt]
  rcases X with ⟨rfl, rfl⟩ | ⟨i, off, rfl, hr⟩
  · have : n = 0 := by
      rcases Nat.eq_zero_or_pos n with x | x
      · exact x
      · have := Nat.mul_pos x hs; simp at hn; omega
    subst this
    simp only [Nat.beq_refl]
    exact e'
  · simp only
    rw [← hn, Sl.rdN hr]
    exact e'
end Go.Abs
end

section
/- Fresh colours. -/
namespace Go.Abs
variable {S : Nat → Prop} {h h' : AW} {μ μ' : Paint} {c : Nat} {P : Program} {a : Option Addr} {cap sz : Nat} {vs : List Value}

/-- A colour that nothing bears as yet. -/
def Fresh (h : AW) (μ : Paint) (c : Nat) : Prop := ∀ i, i < h.next → μ i ≠ c
theorem fresh_ex (h : AW) (μ : Paint) : ∃ c, Fresh h μ c := by
  suffices H : ∀ n, ∃ c, ∀ i, i < n → μ i < c by
    obtain ⟨c, hc⟩ := H h.next
    exact ⟨c, fun i hi e => by have := hc i hi; omega⟩
  intro n
  induction n with
  | zero => exact ⟨0, fun i hi => by omega⟩
  | succ n ih =>
    obtain ⟨c, hc⟩ := ih
    refine ⟨max c (μ n + 1), fun i hi => ?_⟩
    rcases Nat.lt_or_ge i n with x | x
    · have := hc i x; omega
    · have : i = n := by omega
      subst this; omega
theorem Chg.fresh (C : Chg (fun k => S k ∨ k = c) h μ h' μ') (hf : Fresh h μ c) (d : Nat) : Chg S h μ h' (mkNew μ h.next d) := by
  refine ⟨C.le, fun i hi => mkNew_old hi, fun i hi hs => ?_, fun i hi hs => ?_⟩
  · exact C.obj i hi fun x => x.elim hs fun e => hf i hi e
  · exact C.fam i hi fun x => x.elim hs fun e => hf i hi e
theorem Chg.fresh0 (C : Chg (· = c) h μ h' μ') (hf : Fresh h μ c) (d : Nat) : Chg (fun _ => False) h μ h' (mkNew μ h.next d) :=
  Chg.fresh (C.mono fun _ e => .inr e) hf d
theorem OM.fresh {h0 : AW} (O : OM h' μ' c a cap sz vs) (hf : Fresh h0 μ c) (hm : ∀ i, i < h0.next → μ' i = μ i) (d : Nat) : OM h' (mkNew μ h0.next d) d a cap sz vs := by
  refine ⟨O.le, O.one, ?_⟩
  have new : ∀ i, μ' i = c → mkNew μ h0.next d i = d := by
    intro i e
    refine mkNew_new ?_
    rcases Nat.lt_or_ge i h0.next with x | x
    · exact absurd (by rw [← hm i x, e]) (hf i x)
    · exact x
  rcases O.mem with x | ⟨i, off, e, h1, h2, r, k⟩
  · exact .inl x
  · refine .inr ⟨i, off, e, h1, new i h2, r, ?_⟩
    rcases k with x | ⟨f, g, lo, hi, t, ext, frz, h3, h4, h5, h6, h7⟩
    · exact .inl x
    · exact .inr ⟨f, g, lo, hi, t, ext, frz, h3, h4, h5, new f h6, h7⟩
theorem SM.repaint {h0 : AW} (X : SM h' μ' c a vs) (hf : Fresh h0 μ c) (hm : ∀ i, i < h0.next → μ' i = μ i) (d : Nat) : SM h' (mkNew μ h0.next d) d a vs := by
  have new : ∀ i, μ' i = c → mkNew μ h0.next d i = d := by
    intro i e
    refine mkNew_new ?_
    rcases Nat.lt_or_ge i h0.next with x | x
    · exact absurd (by rw [← hm i x, e]) (hf i x)
    · exact x
  rcases X with x | ⟨i, off, e, h1, h2, h3, r⟩
  · exact .inl x
  · refine .inr ⟨i, off, e, h1, new i h2, fun f g lo hi z t hr => ?_, r⟩
    obtain ⟨h4, h5⟩ := h3 f g lo hi z t hr
    exact ⟨h4, new f h5⟩
/-- What bore another colour keeps it. -/
theorem SM.other {h0 : AW} {e d : Nat} (X : SM h' μ' e a vs) (he : ∀ i, i < h'.next → μ' i = e → i < h0.next) (hm : ∀ i, i < h0.next → μ' i = μ i) : SM h' (mkNew μ h0.next d) e a vs := by
  rcases X with x | ⟨i, off, e1, h1, h2, h3, r⟩
  · exact .inl x
  · have hi := he i h1 h2
    refine .inr ⟨i, off, e1, h1, by rw [mkNew_old hi, ← hm i hi, h2], fun f g lo hi z t hr => ?_, r⟩
    obtain ⟨h4, h5⟩ := h3 f g lo hi z t hr
    have hf := he f h4 h5
    exact ⟨h4, by rw [mkNew_old hf, ← hm f hf, h5]⟩
/-- An empty block of no room. -/
theorem OM.empty : OM (h.addVar []) (mkNew μ h.next c) c (some ⟨h.next, 0, none⟩) 0 sz [] :=
  ⟨by simp, rfl, .inr ⟨h.next, 0, rfl, Nat.lt_succ_self _, mkNew_new (Nat.le_refl _), by simp, .inl ⟨_, _, _, T.get?_set_same _ _ _, by simp, fun e => (by cases e)⟩⟩⟩
/-- A new block as a slice. -/
theorem OM.block {l : List Value} {n : Nat} (hl : l.length = n * sz) (ha : allOne l = true) : OM (h.addVar l) (mkNew μ h.next c) c (some ⟨h.next, 0, none⟩) n sz l :=
  ⟨by omega, ha, .inr ⟨h.next, 0, rfl, Nat.lt_succ_self _, mkNew_new (Nat.le_refl _), fun j _ => by rw [Nat.zero_add, addVar_at.rd], .inl ⟨_, _, _, T.get?_set_same _ _ _, by omega, fun e => (by cases e)⟩⟩⟩
end Go.Abs
end

section
/- Named pieces of the heap: what is owned, piece by piece. -/
namespace Go.Abs
variable {S : Nat → Prop} {h h' : AW} {μ μ' : Paint} {P : Program}

inductive Res where
  | var (i : Nat) (l : List Value)
  | sl (a : Option Addr) (cap sz : Nat) (l : List Value)
  | map (i : Nat) (es : List (Value × Value))
  | ro (vs : List (Option Addr × List Value))

def Res.Holds (h : AW) (μ : Paint) (c : Nat) : Res → Prop
  | .var i l => i < h.next ∧ μ i = c ∧ VarAt h i l
  | .sl a cap sz l => OM h μ c a cap sz l
  | .map i es => i < h.next ∧ μ i = c ∧ h.objs.get? i = some (.map es)
  | .ro vs => ∀ a l, (a, l) ∈ vs → SM h μ c a l

theorem Res.Holds.keep {c : Nat} {r : Res} (H : r.Holds h μ c) (hs : ¬ S c) (C : Chg S h μ h' μ') : r.Holds h' μ' c := by
  cases r with
  | var i l =>
    obtain ⟨a, b, V⟩ := H
    exact ⟨Nat.lt_of_lt_of_le a C.le, by rw [C.mark i a, b], V.keep a (by rw [b]; exact hs) C⟩
  | sl a cap sz l => exact OM.keep H hs C
  | map i es =>
    obtain ⟨a, b, V⟩ := H
    exact ⟨Nat.lt_of_lt_of_le a C.le, by rw [C.mark i a, b], by rw [C.obj i a (by rw [b]; exact hs), V]⟩
  | ro vs => exact fun a l hm => SM.keep (H a l hm) hs C

/-- Names of pieces. -/
abbrev Store := Nat → Option Res
def Store.upd (ρ : Store) (c : Nat) (r : Res) : Store := fun d => if d = c then some r else ρ d
theorem upd_same {ρ : Store} {c : Nat} {r : Res} : ρ.upd c r c = some r := by simp [Store.upd]
theorem upd_ne {ρ : Store} {c d : Nat} {r : Res} (h : d ≠ c) : ρ.upd c r d = ρ d := by simp [Store.upd, h]
theorem upd_upd {ρ : Store} {c : Nat} {r r' : Res} : (ρ.upd c r).upd c r' = ρ.upd c r' := by
  funext d; unfold Store.upd; split <;> rfl
theorem upd_comm {ρ : Store} {c d : Nat} {r r' : Res} (h : c ≠ d) : (ρ.upd c r).upd d r' = (ρ.upd d r').upd c r := by
  funext e; unfold Store.upd; split <;> split <;> first | rfl | (subst_vars; exact absurd rfl h)
theorem upd_self {ρ : Store} {c : Nat} {r : Res} (h : ρ c = some r) : ρ.upd c r = ρ := by
  funext d; unfold Store.upd; split
  · rename_i e; subst e; exact h.symm
  · rfl
/-- What is there is not what is new. -/
theorem name_ne {ρ : Store} {c d : Nat} {r : Res} (hc : ρ c = none) (hd : ρ d = some r) : d ≠ c := by
  rintro rfl; rw [hc] at hd; cases hd
theorem upd_old {ρ : Store} {c d : Nat} {r r' : Res} (hc : ρ c = none) (hd : ρ d = some r') : ρ.upd c r d = some r' := by
  rw [upd_ne (name_ne hc hd), hd]

structure Own (h : AW) (μ : Paint) (ρ : Store) : Prop where
  fin : ∃ N, ∀ c, N ≤ c → ρ c = none
  holds : ∀ c r, ρ c = some r → r.Holds h μ c

variable {ρ ρ' : Store} {c : Nat}
theorem Own.fresh (O : Own h μ ρ) : ∃ c, ρ c = none := by
  obtain ⟨N, hN⟩ := O.fin
  exact ⟨N, hN N (Nat.le_refl _)⟩
/-- A piece turned. -/
theorem Own.step (O : Own h μ ρ) {r : Res} (C : Chg (· = c) h μ h' μ') (H : r.Holds h' μ' c) : Own h' μ' (ρ.upd c r) := by
  refine ⟨?_, fun d r' hd => ?_⟩
  · obtain ⟨N, hN⟩ := O.fin
    refine ⟨Nat.max N (c + 1), fun d hd => ?_⟩
    have h1 : N ≤ d := Nat.le_trans (Nat.le_max_left _ _) hd
    have h2 : c + 1 ≤ d := Nat.le_trans (Nat.le_max_right _ _) hd
    rw [upd_ne (by omega)]; exact hN d h1
  · by_cases e : d = c
    · subst e; rw [upd_same] at hd; cases hd; exact H
    · rw [upd_ne e] at hd
      exact (O.holds d r' hd).keep e C
/-- Fewer names. -/
theorem Own.mono (O : Own h μ ρ) (hs : ∀ d r, ρ' d = some r → ρ d = some r) : Own h μ ρ' := by
  refine ⟨?_, fun d r hd => O.holds d r (hs d r hd)⟩
  obtain ⟨N, hN⟩ := O.fin
  refine ⟨N, fun d hd => ?_⟩
  cases hx : ρ' d with
  | none => rfl
  | some r => have := hs d r hx; rw [hN d hd] at this; cases this
theorem Own.drop {r : Res} (O : Own h μ (ρ.upd c r)) (hc : ρ c = none) : Own h μ ρ := O.mono fun d r' hd => upd_old hc hd
theorem Own.quiet (O : Own h μ ρ) (C : Chg (fun _ => False) h μ h' μ') : Own h' μ' ρ := ⟨O.fin, fun d r hd => (O.holds d r hd).keep (fun x => x) C⟩

/-! Blocks. -/
theorem Own.rd (O : Own h μ ρ) {i : Nat} {l : List Value} (hc : ρ c = some (.var i l)) (j : Nat) : h.rd i j = l[j]? := (O.holds _ _ hc).2.2.rd j
theorem o_rd (O : Own h μ ρ) {i j : Nat} {l : List Value} {v : Value} {f : Value → Prop} (hc : ρ c = some (.var i l)) (hv : l[j]? = some v) (H : f v) : oB (h.rd i j) f := by
  rw [O.rd hc, hv]; exact H
theorem o_wr (O : Own h μ ρ) {i j : Nat} {l : List Value} {v : Value} {f : AW → Prop} (hc : ρ c = some (.var i l)) (hj : j < l.length) (h1 : oneCell v = true)
    (H : ∀ h', Own h' μ (ρ.upd c (.var i (l.set j v))) → f h') : oB (h.wr i j v) f := by
  obtain ⟨a, b, V⟩ := O.holds _ _ hc
  obtain ⟨h', e, V', C, n⟩ := V.chg (S := (· = c)) hj h1 b
  rw [e]
  exact H h' (O.step C ⟨by rw [n]; exact a, b, V'⟩)
def setAll (l : List Value) (j : Nat) : List Value → List Value
  | [] => l
  | v :: vs => setAll (l.set j v) (j + 1) vs
theorem o_wrL {i : Nat} : ∀ (vs : List Value) {h : AW} {ρ : Store} {l : List Value} {j : Nat} {f : AW → Prop}, Own h μ ρ → ρ c = some (.var i l) → j + vs.length ≤ l.length → allOne vs = true →
    (∀ h', Own h' μ (ρ.upd c (.var i (setAll l j vs))) → f h') → oB (h.wrL i j vs) f
  | [], h, ρ, l, j, f, O, hc, _, _, H => H h (by rw [setAll, upd_self hc]; exact O)
  | v :: vs, h, ρ, l, j, f, O, hc, hj, ha, H => by
    simp only [allOne] at ha
    split at ha
    · rename_i h1
      simp only [List.length_cons] at hj
      obtain ⟨a, b, V⟩ := O.holds _ _ hc
      obtain ⟨h', e, V', C, n⟩ := V.chg (S := (· = c)) (j := j) (by omega) h1 b
      have O' := O.step (r := .var i (l.set j v)) C ⟨by rw [n]; exact a, b, V'⟩
      have := o_wrL vs (f := f) O' upd_same (j := j + 1) (by simp; omega) ha (fun h2 O2 => H h2 (by rw [upd_upd] at O2; exact O2))
      simp only [AW.wrL, e]
      exact this
    · cases ha
theorem o_addVar (O : Own h μ ρ) (c : Nat) {l : List Value} : Own (h.addVar l) (mkNew μ h.next c) (ρ.upd c (.var h.next l)) :=
  O.step addVar_chg ⟨Nat.lt_succ_self _, mkNew_new (Nat.le_refl _), addVar_at⟩
/-- A new block, by a new name. -/
theorem o_new (O : Own h μ ρ) {l : List Value} {f : AW → Nat → Prop} (H : ∀ c h' μ' i, ρ c = none → Own h' μ' (ρ.upd c (.var i l)) → f h' i) : f (h.addVar l) h.next := by
  obtain ⟨c, hc⟩ := O.fresh
  exact H c _ _ _ hc (o_addVar O c)
/-- A new block that is a slice. -/
theorem o_block (O : Own h μ ρ) (c : Nat) {l : List Value} {n sz : Nat} (hl : l.length = n * sz) (ha : allOne l = true) : Own (h.addVar l) (mkNew μ h.next c) (ρ.upd c (.sl (some ⟨h.next, 0, none⟩) n sz l)) :=
  O.step addVar_chg (OM.block hl ha)
/-- A block that is nothing but garbage. -/
theorem o_junk (O : Own h μ ρ) {l : List Value} : ∃ μ', Own (h.addVar l) μ' ρ := ⟨_, O.quiet (addVar_chg (c := 0))⟩

/-! Slices. -/
theorem Own.sl (O : Own h μ ρ) {a : Option Addr} {cap sz : Nat} {l : List Value} (hc : ρ c = some (.sl a cap sz l)) : Sl h a l := OM.sl (O.holds _ _ hc)
theorem Own.ro (O : Own h μ ρ) {a : Option Addr} {l : List Value} {vs : List (Option Addr × List Value)} (hc : ρ c = some (.ro vs)) (hm : (a, l) ∈ vs) : Sl h a l := (O.holds _ _ hc a l hm).sl
/-- An element's place. -/
theorem Sl.ix {a : Option Addr} {l : List Value} (X : Sl h a l) {z : Int} {j n sz : Nat} (hz : z = j) (hn : l.length = n * sz) (h0 : 0 < sz) (hj : j < n) {f : Nat → Nat → Nat → Prop}
    (H : ∀ i off, a = some ⟨i, off, none⟩ → (∀ k, k < sz → h.rd i (off + j * sz + k) = l[j * sz + k]?) → f i off j) : aP a fun i off => oB (natIdx z n) fun j => f i off j := by
  subst hz
  have hlt : ∀ k, k < sz → j * sz + k < l.length := fun k hk => by
    have : (j + 1) * sz ≤ n * sz := Nat.mul_le_mul_right _ hj
    rw [Nat.add_mul, Nat.one_mul] at this; omega
  rcases X with ⟨rfl, rfl⟩ | ⟨i, off, rfl, hr⟩
  · have := hlt 0 h0; simp at this
  · simp only [aP_some]
    rw [natIdx_eq hj]
    exact H i off rfl fun k hk => by rw [Nat.add_assoc]; exact hr _ (hlt k hk)
/-- An element of one cell. -/
theorem Sl.i1 {a : Option Addr} {l : List Value} (X : Sl h a l) {z : Int} {j n : Nat} {v : Value} (hz : z = j) (hn : n = l.length) (hv : l[j]? = some v) {f : Value → Prop} (H : f v) : aP a fun i off => oB (natIdx z n) fun j => oB (h.rd i (off + j * 1)) f := X.at1 hz hn hv H
/-- A write in place. -/
theorem o_sl_wr (O : Own h μ ρ) {i off j cap sz : Nat} {l : List Value} {v : Value} {f : AW → Prop} (hc : ρ c = some (.sl (some ⟨i, off, none⟩) cap sz l)) (hj : j < l.length) (h1 : oneCell v = true)
    (H : ∀ h', Own h' μ (ρ.upd c (.sl (some ⟨i, off, none⟩) cap sz (l.set j v))) → f h') : oB (h.wr i (off + j) v) f := by
  have M : OM h μ c _ cap sz l := O.holds _ _ hc
  obtain ⟨h', e, M', C, n⟩ := M.wr (j := j) (Nat.lt_of_lt_of_le hj M.le) (Nat.le_of_lt hj) h1
  rw [if_pos hj] at M'
  rw [e]
  exact H h' (O.step C M')
/-- An element of one cell, written. -/
theorem o_i1_wr (O : Own h μ ρ) {a : Option Addr} {cap : Nat} {l : List Value} (hc : ρ c = some (.sl a cap 1 l)) {z : Int} {j n : Nat} {v : Value} (hz : z = j) (hn : n = l.length) (hj : j < l.length) (h1 : oneCell v = true) {f : AW → Prop}
    (H : ∀ h', Own h' μ (ρ.upd c (.sl a cap 1 (l.set j v))) → f h') : aP a fun i off => oB (natIdx z n) fun j => oB (h.wr i (off + j * 1) v) f := by
  refine (O.sl hc).ix (sz := 1) hz (by omega) (by omega) (by omega) fun i off e _ => ?_
  subst e
  rw [Nat.mul_one]
  exact o_sl_wr O hc hj h1 H
/-- append. -/
theorem o_app (O : Own h μ ρ) {ty e : TypeId} {te : TI} {ag : Bool} {s1 b1 : Nat} {z1 : Option Value} (h1 : tiOf P ty = some ⟨.slice e, ag, s1, b1, z1⟩) (h2 : tiOf P e = some te) (hz : te.zero.isSome = true) (hs : 0 < te.size)
    {a : Option Addr} {cap : Nat} {l : List Value} (hc : ρ c = some (.sl a cap te.size l)) {n m k : Nat} (hl : l.length = n * te.size) {b : Option Addr} {new : List Value} (X : Sl h b new) (hn : new.length = m * te.size) (ha : allOne new = true)
    (r1 : (n + m) * te.bytes ≤ 70368744177664) (r2 : n + m ≤ 4611686018427387904) {f : Value → AW → Prop}
    (H : ∀ a' cap' h' μ', Own h' μ' (ρ.upd c (.sl a' cap' te.size (l ++ new))) → f (.slice a' (n + m) cap') h') : oP (appendB P h ⟨[ty, ty]⟩ [.slice a n cap, .slice b m k]) f := by
  have M : OM h μ c a cap te.size l := O.holds _ _ hc
  have hcap : n ≤ cap := by
    have := M.le; rw [hl] at this
    exact Nat.le_of_mul_le_mul_right this hs
  obtain ⟨a', cap', h', e', M', _, C⟩ := appendB_ok (P := P) (m := k) h1 h2 hz hs M hl X hn ha r1 r2 hcap
  rw [e']
  exact H a' cap' h' _ (O.step C M')

/-! Maps. -/
theorem o_mapL (O : Own h μ ρ) {i : Nat} {es : List (Value × Value)} {f : List (Value × Value) → Prop} (hc : ρ c = some (.map i es)) (H : f es) : oB (h.mapL (some i)) f := by
  obtain ⟨_, _, e⟩ := O.holds _ _ hc
  unfold AW.mapL
  simp only
  rw [e]; exact H
theorem o_addMap (O : Own h μ ρ) (c : Nat) : Own h.addMap (mkNew μ h.next c) (ρ.upd c (.map h.next [])) := by
  refine O.step ⟨Nat.le_succ _, fun i hi => mkNew_old hi, fun i hi _ => ?_, fun i hi _ => rfl⟩ ⟨Nat.lt_succ_self _, mkNew_new (Nat.le_refl _), ?_⟩
  · simp only [AW.addMap]; exact T.get?_set_ne _ _ (by omega)
  · simp only [AW.addMap]; exact T.get?_set_same _ _ _
theorem o_mapSet (O : Own h μ ρ) {i : Nat} {es es' : List (Value × Value)} (hc : ρ c = some (.map i es)) : Own { h with objs := h.objs.set i (.map es') } μ (ρ.upd c (.map i es')) := by
  obtain ⟨a, b, e⟩ := O.holds _ _ hc
  refine O.step ⟨Nat.le_refl _, fun _ _ => rfl, fun k _ hn => ?_, fun _ _ _ => rfl⟩ ⟨a, b, T.get?_set_same _ _ _⟩
  exact T.get?_set_ne _ _ (fun e => hn (by rw [e]; exact b))
theorem o_mapUpd (O : Own h μ ρ) {i : Nat} {es es' : List (Value × Value)} {t kt et : TypeId} {tk : TI} {ag : Bool} {s1 b1 : Nat} {z1 : Option Value} {k v : Value} (hc : ρ c = some (.map i es)) (h1 : tiOf P t = some ⟨.map kt et, ag, s1, b1, z1⟩) (h2 : tiOf P kt = some tk) (hk : keyKind tk.und = true)
    (hu : Abs.upd tk.und k v es = some es') {f : AW → Prop} (H : ∀ h', Own h' μ (ρ.upd c (.map i es')) → f h') : oB (mapUpdV P h t (.map (some i)) k v) f := by
  obtain ⟨_, _, e⟩ := O.holds _ _ hc
  unfold mapUpdV
  rw [h1]; simp only
  rw [h2]; simp only
  rw [hk, e]; simp only
  rw [hu]
  exact H _ (o_mapSet O hc)
/-! Strings as keys. -/
def lookS (k : ByteArray) : List (ByteArray × Value) → Option Value
  | [] => none
  | (k', v) :: l => if k' = k then some v else lookS k l
def updS (k : ByteArray) (v : Value) : List (ByteArray × Value) → List (ByteArray × Value)
  | [] => [(k, v)]
  | (k', v') :: l => if k' = k then (k, v) :: l else (k', v') :: updS k v l
def keyd (l : List (ByteArray × Value)) : List (Value × Value) := l.map fun p => (.string p.1, p.2)
theorem baEq (a b : ByteArray) : (a == b) = decide (a = b) := by
  obtain ⟨a⟩ := a
  obtain ⟨b⟩ := b
  have : ((⟨a⟩ : ByteArray) == ⟨b⟩) = (a == b) := rfl
  rw [this]
  by_cases e : a = b
  · subst e; simp
  · have h2 : ¬ ((⟨a⟩ : ByteArray) = ⟨b⟩) := fun x => e (by cases x; rfl)
    simp [e, h2]
theorem sameS (a b : ByteArray) : Instr.sameNow .string (.string a) (.string b) = some (decide (b = a)) := by
  simp only [Instr.sameNow, baEq]
  by_cases e : b = a
  · subst e; simp
  · have : ¬ a = b := fun x => e x.symm
    simp [e, this]
theorem look_keyd (k : ByteArray) : ∀ (l : List (ByteArray × Value)), Abs.look .string (.string k) (keyd l) = some (lookS k l)
  | [] => rfl
  | (k', v) :: l => by
    simp only [keyd, List.map_cons, look, lookS]
    rw [sameS]
    by_cases e : k' = k
    · simp [e]
    · simp only [e, decide_false, if_false]
      exact look_keyd k l
theorem upd_keyd (k : ByteArray) (v : Value) : ∀ (l : List (ByteArray × Value)), Abs.upd .string (.string k) v (keyd l) = some (keyd (updS k v l))
  | [] => rfl
  | (k', v') :: l => by
    simp only [keyd, List.map_cons, upd, updS]
    rw [sameS]
    by_cases e : k' = k
    · simp [e]
    · have := upd_keyd k v l
      simp only [keyd] at this
      simp only [e, decide_false, if_false, this]
      rfl
end Go.Abs
end

section
/- Lists of blocks of equal length; small words on strings and slices. -/
namespace Go.Abs

section
variable {α β : Type} {f : α → List β} {sz : Nat}
theorem flat_len (hf : ∀ x, (f x).length = sz) : ∀ l : List α, (l.flatMap f).length = l.length * sz
  | [] => by simp
  | x :: l => by rw [List.flatMap_cons, List.length_append, hf, flat_len hf l, List.length_cons, Nat.add_mul]; omega
theorem flat_get (hf : ∀ x, (f x).length = sz) {k : Nat} (hk : k < sz) : ∀ (l : List α) (j : Nat), (l.flatMap f)[j * sz + k]? = (l[j]?).bind fun x => (f x)[k]?
  | [], j => by simp
  | x :: l, 0 => by
    rw [List.flatMap_cons, List.getElem?_append_left (by rw [hf]; omega)]
    simp
  | x :: l, j + 1 => by
    rw [List.flatMap_cons, List.getElem?_append_right (by rw [hf, Nat.add_mul]; omega), hf, show (j + 1) * sz + k - sz = j * sz + k from by rw [Nat.add_mul]; omega, flat_get hf hk l j]
    simp
theorem flat_set (hf : ∀ x, (f x).length = sz) {k : Nat} (hk : k < sz) {x x' : α} {v : β} (hx : f x' = (f x).set k v) : ∀ (l : List α) (j : Nat), l[j]? = some x → (l.flatMap f).set (j * sz + k) v = (l.set j x').flatMap f
  | [], j, h => by simp at h
  | y :: l, 0, h => by
    simp at h; subst h
    rw [List.flatMap_cons, List.set_append_left _ _ (by rw [hf]; omega)]
    simp [hx]
  | y :: l, j + 1, h => by
    simp at h
    rw [List.flatMap_cons, List.set_append_right _ _ (by rw [hf, Nat.add_mul]; omega), hf, show (j + 1) * sz + k - sz = j * sz + k from by rw [Nat.add_mul]; omega, flat_set hf hk hx l j h]
    simp
end

theorem flatL_set {β : Type} {sz k : Nat} (hk : k < sz) {v : β} : ∀ (L : List (List β)) (j : Nat) (x : List β), (∀ y, y ∈ L → y.length = sz) → L[j]? = some x → L.flatten.set (j * sz + k) v = (L.set j (x.set k v)).flatten
  | [], j, x, _, h => by simp at h
  | y :: L, 0, x, hL, h => by
    simp at h; subst h
    have := hL y (by simp)
    rw [List.flatten_cons, List.set_append_left _ _ (by omega)]
    simp
  | y :: L, j + 1, x, hL, h => by
    simp at h
    have hy := hL y (by simp)
    rw [List.flatten_cons, List.set_append_right _ _ (by rw [hy, Nat.add_mul]; omega), hy, show (j + 1) * sz + k - sz = j * sz + k from by rw [Nat.add_mul]; omega, flatL_set hk L j x (fun z hz => hL z (List.mem_cons_of_mem _ hz)) h]
    simp
abbrev Str := ByteArray
abbrev e0 : Str := ⟨#[]⟩
abbrev strs (l : List Str) : List Value := l.map Value.string
abbrev big : Nat := 1000000000
theorem bEq_dec (x y : Str) : bEq x y = decide (x = y) := by
  by_cases e : x = y
  · subst e; simp
  · rw [bEq_false.2 e]; simp [e]
theorem wrapS {j : Nat} (h : j < 4611686018427387904) : IntKind.wrap .i64 ((j : Int) + 1) = ((j + 1 : Nat) : Int) := by
  have := wrap_small (n := (j : Int) + 1) (by omega) (by omega)
  rw [this]; omega
theorem wrap_sm {n : Int} (h1 : -2000000000 ≤ n) (h2 : n ≤ 2000000000) : IntKind.wrap .i64 n = n := wrap_small (Int.le_trans (by decide) h1) (Int.lt_of_le_of_lt h2 (by decide))
theorem ltI {j n : Nat} (h : j < n) : decide ((j : Int) < (n : Int)) = true := by simp; omega
theorem geI {j n : Nat} (h : n ≤ j) : decide ((j : Int) < (n : Int)) = false := by simp; omega
theorem allOne_strs {l : List Str} : allOne (strs l) = true := allOne_of fun v hv => by
  obtain ⟨s, _, rfl⟩ := List.mem_map.1 hv
  rfl
def memB (s : Str) (x : List Str) : Bool := x.any fun t => bEq s t
theorem memB_iff {s : Str} {x : List Str} : memB s x = true ↔ s ∈ x := by
  unfold memB
  rw [List.any_eq_true]
  exact ⟨fun ⟨t, ht, e⟩ => by rw [bEq_iff.1 e]; exact ht, fun h => ⟨s, h, bEq_self⟩⟩
instance decMemStr (s : ByteArray) (x : List ByteArray) : Decidable (s ∈ x) := decidable_of_iff (memB s x = true) memB_iff
theorem memB_not {s : Str} {x : List Str} : memB s x = false ↔ s ∉ x := by rw [← Bool.not_eq_true, memB_iff]
end Go.Abs
end

section
/- The scheduler as it is said: tasks, slots, a queue, who waits in which order. No Go in it. -/
namespace Go.Abs.Sch
open Go.Abs

structure Tk where
  key : Str
  st : Nat
  on : Str
  since : Nat
  starts : Nat
structure M where
  tasks : List Tk
  slots : List Str
  queue : List Str
  clock : Nat

def tix (l : List Tk) (k : Str) : Option Nat := l.findIdx? fun t => bEq t.key k
def tget (l : List Tk) (k : Str) : Option Tk := l.find? fun t => bEq t.key k
theorem tix_cases (l : List Tk) (k : Str) : (tix l k = none ∧ tget l k = none ∧ ∀ t, t ∈ l → t.key ≠ k) ∨
    ∃ j t, tix l k = some j ∧ l[j]? = some t ∧ tget l k = some t ∧ t.key = k ∧ j < l.length ∧ ∀ i t', i < j → l[i]? = some t' → t'.key ≠ k := by
  unfold tix tget
  induction l with
  | nil => exact .inl ⟨rfl, rfl, fun t h => by simp at h⟩
  | cons x l ih =>
    by_cases e : x.key = k
    · refine .inr ⟨0, x, ?_, rfl, ?_, e, by simp, fun i t' hi => by omega⟩
      · simp [List.findIdx?_cons, e]
      · simp [e]
    · have hb : bEq x.key k = false := bEq_false.2 e
      rcases ih with ⟨h1, h2, h3⟩ | ⟨j, t, h1, h2, h3, h4, h5, h6⟩
      · refine .inl ⟨?_, ?_, ?_⟩
        · rw [List.findIdx?_cons, hb, h1]; rfl
        · rw [List.find?_cons, hb, h2]
        · intro t ht
          rcases List.mem_cons.1 ht with rfl | hm
          · exact e
          · exact h3 t hm
      · refine .inr ⟨j + 1, t, ?_, by simpa using h2, ?_, h4, by simp; omega, ?_⟩
        · rw [List.findIdx?_cons, hb, h1]; rfl
        · rw [List.find?_cons, hb, h3]
        · intro i t' hi ht
          cases i with
          | zero => simp at ht; subst ht; exact e
          | succ i => simp at ht; exact h6 i t' (by omega) ht
def tixI (l : List Tk) (k : Str) : Int := match tix l k with | some j => (j : Int) | none => -1
def stOf (l : List Tk) (k : Str) : Nat := match tget l k with | some t => t.st | none => 0
def startsOf (l : List Tk) (k : Str) : Nat := match tget l k with | some t => t.starts | none => 0
def newT (k : Str) : Tk := ⟨k, 1, e0, 0, 0⟩
def want1 (m : M) (k : Str) : M := match tix m.tasks k with
  | some _ => m
  | none => { m with tasks := m.tasks ++ [newT k], queue := m.queue ++ [k] }
def wantL (m : M) (ks : List Str) : M := ks.foldl want1 m
/-- The task of a key, turned. -/
def upL (l : List Tk) (k : Str) (f : Tk → Tk) : List Tk := l.map fun t => if t.key = k then f t else t
def upT (m : M) (k : Str) (f : Tk → Tk) : M := { m with tasks := upL m.tasks k f }
def keys (l : List Tk) : List Str := l.map Tk.key
theorem upL_len {l : List Tk} {k : Str} {f : Tk → Tk} : (upL l k f).length = l.length := by simp [upL]
theorem upL_keys {k : Str} {f : Tk → Tk} (hf : ∀ t, (f t).key = t.key) (l : List Tk) : keys (upL l k f) = keys l := by
  unfold keys upL
  rw [List.map_map]
  refine List.map_congr_left fun t _ => ?_
  simp only [Function.comp]
  split
  · exact hf t
  · rfl
theorem tix_keys : ∀ {l l' : List Tk} (k : Str), keys l = keys l' → tix l k = tix l' k
  | [], [], k, _ => rfl
  | t :: l, t' :: l', k, h => by
    simp only [keys, List.map_cons, List.cons.injEq] at h
    have := tix_keys (l := l) (l' := l') k h.2
    unfold tix at *
    rw [List.findIdx?_cons, List.findIdx?_cons, h.1, this]
  | [], _ :: _, k, h => by simp [keys] at h
  | _ :: _, [], k, h => by simp [keys] at h
theorem tget_upL {k : Str} {f : Tk → Tk} (hf : ∀ t, (f t).key = t.key) (k' : Str) : ∀ (l : List Tk), tget (upL l k f) k' = if k' = k then (tget l k').map f else tget l k'
  | [] => by simp [tget, upL]
  | t :: l => by
    have ih := tget_upL (k := k) hf k' l
    have hkey : (if t.key = k then f t else t).key = t.key := by split; exact hf t; rfl
    unfold tget upL at *
    rw [List.map_cons, List.find?_cons, List.find?_cons, hkey]
    by_cases e : t.key = k'
    · subst e
      simp only [bEq_self]
      split <;> simp_all
    · rw [bEq_false.2 e]
      simp only
      rw [ih]
theorem upL_set {l : List Tk} {k : Str} {f : Tk → Tk} (hn : (keys l).Nodup) {j : Nat} {t : Tk} (ht : l[j]? = some t) (hk : t.key = k) : l.set j (f t) = upL l k f := by
  apply List.ext_getElem?
  intro i
  rw [List.getElem?_set]
  unfold upL
  rw [List.getElem?_map]
  obtain ⟨hj, ej⟩ := List.getElem?_eq_some_iff.1 ht
  by_cases e : j = i
  · subst e
    rw [if_pos rfl, if_pos hj, ht]; simp [hk]
  · rw [if_neg e]
    cases hi : l[i]? with
    | none => rfl
    | some t' =>
      have : t'.key ≠ k := fun e2 => by
        obtain ⟨hi', ei⟩ := List.getElem?_eq_some_iff.1 hi
        have h1 : i < (keys l).length := by simpa [keys] using hi'
        have h2 : j < (keys l).length := by simpa [keys] using hj
        have := (List.getElem_inj (h₀ := h1) (h₁ := h2) hn).1 (by simp [keys, ei, ej, e2, hk])
        exact e this.symm
      simp [this]
def fillAt (m : M) (out : List Str) (i : Nat) : M × List Str :=
  match m.slots[i]? with
  | some s => if s = e0 then match m.queue with
    | k :: q => (upT { m with slots := m.slots.set i k, queue := q } k fun t => { t with st := 2, starts := t.starts + 1 }, out ++ [k])
    | [] => (m, out)
    else (m, out)
  | none => (m, out)
/-- From slot i on, n slots. -/
def fillFrom : Nat → M → List Str → Nat → M × List Str
  | 0, m, out, _ => (m, out)
  | n + 1, m, out, i => fillFrom n (fillAt m out i).1 (fillAt m out i).2 (i + 1)
/-- The first slot that is not idle, from a place on, around. -/
def pickFrom (slots : List Str) (a : Nat) : Nat → Nat → Option Str
  | 0, _ => none
  | n + 1, i => if slots.getD ((a + i) % slots.length) e0 = e0 then pickFrom slots a n (i + 1) else some (slots.getD ((a + i) % slots.length) e0)
def pickAt (w : Nat) (n : Int) : Nat := (n % (w : Int)).toNat
def pick (m : M) (n : Int) : Option Str := pickFrom m.slots (pickAt m.slots.length n) m.slots.length 0
def leaveL (slots : List Str) (k : Str) : List Str := slots.map fun s => if s = k then e0 else s
/-! Circles. -/
def chase (l : List Tk) (key : Str) : Nat → Str → List Str → Option (List Str)
  | 0, _, _ => none
  | n + 1, at_, out => match tget l at_ with
    | some t => if t.st = 3 then (if t.on = key then some (out ++ [at_]) else chase l key n t.on (out ++ [at_])) else none
    | none => none
def less (x y : Str) : Bool := Op.bytesLess x.data.toList y.data.toList
def least (x : List Str) : Nat → Nat → Nat → Nat
  | 0, _, cur => cur
  | n + 1, k, cur => least x n (k + 1) (if less (x.getD k e0) (x.getD cur e0) then k else cur)
def turnL (x : List Str) : List Str := x.drop (least x (x.length - 1) 1 0) ++ x.take (least x (x.length - 1) 1 0)
def circleR (l : List Tk) (key : Str) : List Str := match chase l key (l.length + 1) key [] with
  | some x => turnL x
  | none => []
theorem least_lt {x : List Str} : ∀ (n k cur : Nat), k + n ≤ x.length → cur < x.length → least x n k cur < x.length
  | 0, _, _, _, h => h
  | n + 1, k, cur, h, hc => by
    rw [least]
    refine least_lt n (k + 1) _ (by omega) ?_
    split <;> omega
theorem tmod_nat {a w : Nat} : Int.tmod (a : Int) (w : Int) = ((a % w : Nat) : Int) := (Int.ofNat_tmod a w).symm
theorem pickAt_lt {w : Nat} (hw : 0 < w) (n : Int) : pickAt w n < w := by
  unfold pickAt
  have h1 := Int.emod_nonneg n (show (w : Int) ≠ 0 by omega)
  have h2 := Int.emod_lt_of_pos n (show (0 : Int) < w by omega)
  omega
theorem pickAt_eq {w : Nat} (hw : 0 < w) (n : Int) : (pickAt w n : Int) = n % (w : Int) := by
  unfold pickAt
  exact Int.toNat_of_nonneg (Int.emod_nonneg n (by omega))
/-- A remainder made right. -/
theorem tmod_fix {w : Nat} (hw : 0 < w) (n : Int) : (if Int.tmod n w < 0 then Int.tmod n w + w else Int.tmod n w) = (pickAt w n : Int) := by
  rw [pickAt_eq hw]
  have h1 := Int.emod_nonneg n (show (w : Int) ≠ 0 by omega)
  have h2 := Int.emod_lt_of_pos n (show (0 : Int) < w by omega)
  have h3 := Int.tmod_eq_emod (a := n) (b := w)
  split at h3
  · rw [if_neg (by omega)]; omega
  · rename_i hd
    have : n % (w : Int) ≠ 0 := fun e => hd (.inr (Int.dvd_of_emod_eq_zero e))
    rw [if_pos (by simp at h3; omega)]; simp at h3; omega
theorem tmod_range {w : Nat} (hw : 0 < w) (n : Int) : -(w : Int) < Int.tmod n w ∧ Int.tmod n w < w := by
  have h1 := Int.emod_nonneg n (show (w : Int) ≠ 0 by omega)
  have h2 := Int.emod_lt_of_pos n (show (0 : Int) < w by omega)
  have h3 := Int.tmod_eq_emod (a := n) (b := w)
  split at h3
  · omega
  · rename_i hd
    have : n % (w : Int) ≠ 0 := fun e => hd (.inr (Int.dvd_of_emod_eq_zero e))
    simp at h3; omega
/-! Waiting, and ending. -/
def waitR (m : M) (key on : Str) : List Str × Nat × M :=
  if on = e0 then ([], 2, m) else if stOf m.tasks key ≠ 2 then ([], 4, m) else if stOf m.tasks on = 4 then ([], 0, m) else
    let m1 := want1 m on
    let l := upL m1.tasks key fun t => { t with st := 3, on := on, since := m.clock + 1 }
    (circleR l key, 0, ⟨l, leaveL m1.slots key, m1.queue, m.clock + 1⟩)
/-- Who waits for a key, and began to ahead of the one found so far. -/
def ahead (l : List Tk) (f : Option Nat) (t : Tk) : Bool := match f with
  | some j => decide (t.since < ((l[j]?).map Tk.since).getD 0)
  | none => true
def scan (l : List Tk) (key : Str) : Nat → Nat → Option Nat → Option Nat
  | 0, _, f => f
  | n + 1, i, f => match l[i]? with
    | some t => if t.st = 3 ∧ t.on = key ∧ ahead l f t = true then scan l key n (i + 1) (some i) else scan l key n (i + 1) f
    | none => f
def fI : Option Nat → Int
  | some j => (j : Int)
  | none => -1
def release (key : Str) : Nat → List Tk → List Str → List Tk × List Str
  | 0, l, q => (l, q)
  | n + 1, l, q => match scan l key l.length 0 none with
    | some j => match l[j]? with
      | some t => release key n (l.set j { t with st := 1 }) (q ++ [t.key])
      | none => (l, q)
    | none => (l, q)
def waitN (l : List Tk) (key : Str) : Nat := l.countP fun t => t.st == 3 && bEq t.on key
def doneR (m : M) (key : Str) : Nat × M :=
  if stOf m.tasks key = 2 ∨ stOf m.tasks key = 3 then
    let l := upL m.tasks key fun t => { t with st := 4 }
    let r := release key (l.length + 1) l m.queue
    (0, ⟨r.1, leaveL m.slots key, r.2, m.clock⟩)
  else (4, m)
theorem scan_ok {l : List Tk} {key : Str} : ∀ (n i : Nat) (f : Option Nat), i + n = l.length → (∀ j, f = some j → ∃ t, l[j]? = some t ∧ t.st = 3 ∧ t.on = key) →
    ∀ j, scan l key n i f = some j → ∃ t, l[j]? = some t ∧ t.st = 3 ∧ t.on = key
  | 0, i, f, _, hf, j, h => hf j h
  | n + 1, i, f, hi, hf, j, h => by
    rw [scan] at h
    have hlt : i < l.length := by omega
    rw [List.getElem?_eq_getElem hlt] at h
    simp only at h
    split at h
    · rename_i hc
      exact scan_ok n (i + 1) _ (by omega) (fun k hk => by cases hk; exact ⟨_, List.getElem?_eq_getElem hlt, hc.1, hc.2.1⟩) j h
    · exact scan_ok n (i + 1) f (by omega) hf j h
theorem waitN_set {l : List Tk} {key : Str} {j : Nat} {t : Tk} (h : l[j]? = some t) (h1 : t.st = 3) (h2 : t.on = key) : waitN l key = waitN (l.set j { t with st := 1 }) key + 1 := by
  unfold waitN
  induction l generalizing j with
  | nil => simp at h
  | cons x l ih =>
    cases j with
    | zero => simp at h; subst h; subst h2; simp [h1]
    | succ j =>
      simp at h
      simp only [List.set_cons_succ, List.countP_cons]
      have := ih h
      omega
end Go.Abs.Sch
end

section
/- The scheduler as it is made: a task knows who waits for it; how many tasks are in each state is counted. No Go in it. -/
namespace Go.Abs.Sch
open Go.Abs
structure MT where
  key : Str
  st : Nat
  on : Str
  ws : List Str
  starts : Nat
structure MI where
  tasks : List MT
  slots : List Str
  queue : List Str
def mix (l : List MT) (k : Str) : Option Nat := l.findIdx? fun t => bEq t.key k
def mget (l : List MT) (k : Str) : Option MT := l.find? fun t => bEq t.key k
def mst (l : List MT) (k : Str) : Nat := match mget l k with | some t => t.st | none => 0
def mstarts (l : List MT) (k : Str) : Nat := match mget l k with | some t => t.starts | none => 0
def mkeys (l : List MT) : List Str := l.map MT.key
def manyOf (l : List MT) (s : Nat) : Int := if s = 0 then -(l.length : Int) else (l.countP fun t => t.st == s : Nat)
def mupL (l : List MT) (k : Str) (f : MT → MT) : List MT := l.map fun t => if t.key = k then f t else t
def newMT (k : Str) : MT := ⟨k, 1, e0, [], 0⟩
def iwant1 (m : MI) (k : Str) : MI := match mget m.tasks k with
  | some _ => m
  | none => { m with tasks := m.tasks ++ [newMT k], queue := m.queue ++ [k] }
def iwant (m : MI) (ks : List Str) : Nat × MI := if memB e0 ks then (2, m) else (0, ks.foldl iwant1 m)
def ifillAt (m : MI) (out : List Str) (i : Nat) : MI × List Str :=
  match m.slots[i]? with
  | some s => if s = e0 then match m.queue with
    | k :: q => ({ tasks := mupL m.tasks k fun t => { t with st := 2, starts := t.starts + 1 }, slots := m.slots.set i k, queue := q }, out ++ [k])
    | [] => (m, out)
    else (m, out)
  | none => (m, out)
def ifillFrom : Nat → MI → List Str → Nat → MI × List Str
  | 0, m, out, _ => (m, out)
  | n + 1, m, out, i => ifillFrom n (ifillAt m out i).1 (ifillAt m out i).2 (i + 1)
def ready (m : MI) (k : Str) : MI := { m with tasks := mupL m.tasks k fun t => { t with st := 1 }, queue := m.queue ++ [k] }
/-- The circle of a waiting task. -/
def ichase (l : List MT) (key : Str) : Nat → Str → List Str → Option (List Str)
  | 0, _, _ => none
  | n + 1, at_, out => match mget l at_ with
    | some t => if t.st = 3 then (if memB at_ out then none else if t.on = key then some (out ++ [at_]) else ichase l key n t.on (out ++ [at_])) else none
    | none => none
theorem countP_set {l : List MT} {j : Nat} {t t' : MT} (h : l[j]? = some t) (p : MT → Bool) : (l.set j t').countP p + (if p t then 1 else 0) = l.countP p + (if p t' then 1 else 0) := by
  induction l generalizing j with
  | nil => simp at h
  | cons x l ih =>
    cases j with
    | zero => simp at h; subst h; simp only [List.set_cons_zero, List.countP_cons]; omega
    | succ j =>
      simp at h
      simp only [List.set_cons_succ, List.countP_cons]
      have := ih h
      omega
theorem manyOf_set {l : List MT} {j : Nat} {t t' : MT} (h : l[j]? = some t) (ha : t.st ≠ 0) (hb : t'.st ≠ 0) (s : Nat) :
    manyOf (l.set j t') s = manyOf l s - (if t.st = s then 1 else 0) + (if t'.st = s then 1 else 0) := by
  unfold manyOf
  by_cases h0 : s = 0
  · subst h0; simp [ha, hb]
  · have := countP_set (t' := t') h fun t => t.st == s
    simp only [beq_iff_eq] at this
    rw [if_neg h0, if_neg h0]
    split at this <;> split at this <;> simp_all <;> omega
theorem manyOf_le {l : List MT} {B : Nat} (h : l.length ≤ B) (s : Nat) : -(B : Int) ≤ manyOf l s ∧ manyOf l s ≤ B := by
  unfold manyOf
  split
  · omega
  · have := List.countP_le_length (p := fun t : MT => t.st == s) (l := l)
    omega
theorem manyOf_snoc {l : List MT} {t : MT} {s : Nat} : manyOf (l ++ [t]) s = manyOf l s + (if s = 0 then -1 else if t.st = s then 1 else 0) := by
  unfold manyOf
  by_cases h0 : s = 0
  · subst h0; simp; omega
  · rw [if_neg h0, if_neg h0, if_neg h0, List.countP_append, List.countP_singleton]
    by_cases e : t.st = s <;> simp [e]
def ileave (slots : List Str) (k : Str) : List Str := match slots.findIdx? (fun t => bEq k t) with
  | some j => slots.set j e0
  | none => slots
def iadd (m : MI) (on key : Str) : MI := { m with tasks := mupL m.tasks on fun t => { t with ws := t.ws ++ [key] } }
def idxN (s : Str) (x : List Str) : Nat := (x.findIdx? (fun t => bEq s t)).getD 0
def leqS (x y : Str) : Bool := Op.bytesLess x.data.toList y.data.toList || x.data.toList == y.data.toList
def minS (x : List Str) : Str := (x.drop 1).foldl (fun c t => if leqS c t then c else t) (x.headD e0)
theorem foldl_min_mem : ∀ (l : List Str) (c : Str), l.foldl (fun c t => if leqS c t then c else t) c ∈ c :: l
  | [], c => by simp
  | y :: l, c => by
    rw [List.foldl_cons]
    have := foldl_min_mem l (if leqS c y then c else y)
    rcases List.mem_cons.1 this with h | h
    · rw [h]; split <;> simp
    · simp [h]
theorem minS_mem {x : List Str} (h : 0 < x.length) : minS x ∈ x := by
  cases x with
  | nil => simp at h
  | cons y x => exact foldl_min_mem x y
def rotL (x : List Str) : List Str := x.drop (idxN (minS x) x) ++ x.take (idxN (minS x) x)
def icircle (l : List MT) (key : Str) : List Str := match ichase l key (l.length + 1) key [] with
  | some x => rotL x
  | none => []
def iwait (m : MI) (key on : Str) : List Str × Nat × MI :=
  if on = e0 then ([], 2, m) else if mst m.tasks key ≠ 2 then ([], 4, m) else if mst m.tasks on = 4 then ([], 0, m) else
    let m1 := iwant1 m on
    let l := mupL (mupL m1.tasks key fun t => { t with st := 3, on := on }) on fun t => { t with ws := t.ws ++ [key] }
    (icircle l key, 0, ⟨l, ileave m1.slots key, m1.queue⟩)
def idone (m : MI) (key : Str) : Nat × MI :=
  match mget m.tasks key with
  | none => (4, m)
  | some t =>
    if t.st = 2 ∨ t.st = 3 then
      let l1 := if t.st = 3 then mupL m.tasks t.on fun t => { t with ws := t.ws.filter fun k => !bEq k key } else m.tasks
      let s1 := if t.st = 2 then ileave m.slots key else m.slots
      let l2 := mupL l1 key fun t => { t with st := 4 }
      let ws := match mget l2 key with | some t => t.ws | none => []
      let m3 := ws.foldl (fun m k => if k = key then m else ready m k) ⟨l2, s1, m.queue⟩
      (0, { m3 with tasks := mupL m3.tasks key fun t => { t with ws := [] } })
    else (4, m)
end Go.Abs.Sch
end

section
/- The scheduler as it is made: what holds of it at all times. No Go in it. -/
namespace Go.Abs.Sch
open Go.Abs

abbrev G := Str → Option MT
def gupd (g : G) (k : Str) (f : MT → MT) : G := fun k' => if k' = k then (g k').map f else g k'
theorem mget_mupL' {k : Str} {f : MT → MT} (hf : ∀ t, (f t).key = t.key) (k' : Str) : ∀ (l : List MT), mget (mupL l k f) k' = if k' = k then (mget l k').map f else mget l k'
  | [] => by simp [mget, mupL]
  | t :: l => by
    have ih := mget_mupL' (k := k) hf k' l
    have hkey : (if t.key = k then f t else t).key = t.key := by split; exact hf t; rfl
    unfold mget mupL at *
    rw [List.map_cons, List.find?_cons, List.find?_cons, hkey]
    by_cases e : t.key = k'
    · subst e
      simp only [bEq_self]
      split <;> simp_all
    · rw [bEq_false.2 e]
      simp only
      rw [ih]
theorem mget_up {l : List MT} {k : Str} {f : MT → MT} (hf : ∀ t, (f t).key = t.key) : mget (mupL l k f) = gupd (mget l) k f := by
  funext k'
  rw [mget_mupL' hf]; rfl
theorem mget_key {l : List MT} {k : Str} {t : MT} (h : mget l k = some t) : t.key = k := bEq_iff.1 (by simpa using List.find?_some h)
theorem mget_of_mem : ∀ {l : List MT} {t : MT}, (mkeys l).Nodup → t ∈ l → mget l t.key = some t
  | [], t, _, h => by simp at h
  | x :: l, t, hn, h => by
    simp only [mkeys, List.map_cons, List.nodup_cons] at hn
    unfold mget
    rw [List.find?_cons]
    rcases List.mem_cons.1 h with rfl | hm
    · simp
    · have hne : x.key ≠ t.key := fun e => hn.1 (by rw [e]; exact List.mem_map.2 ⟨t, hm, rfl⟩)
      rw [bEq_false.2 hne]
      exact mget_of_mem (l := l) hn.2 hm
theorem mget_mem' {l : List MT} {k : Str} {t : MT} (h : mget l k = some t) : t ∈ l := List.mem_of_find?_eq_some h

structure IG (g : G) (slots queue : List Str) : Prop where
  key : ∀ k t, g k = some t → t.key = k ∧ k ≠ e0
  st : ∀ k t, g k = some t → 1 ≤ t.st ∧ t.st ≤ 4
  q1 : ∀ k, k ∈ queue → ∃ t, g k = some t ∧ t.st = 1
  qn : queue.Nodup
  q2 : ∀ k t, g k = some t → t.st = 1 → k ∈ queue
  s1 : ∀ k, k ∈ slots → k ≠ e0 → ∃ t, g k = some t ∧ t.st = 2
  sn : ∀ (i j : Nat) (k : Str), slots[i]? = some k → slots[j]? = some k → k ≠ e0 → i = j
  s2 : ∀ k t, g k = some t → t.st = 2 → k ∈ slots
  w1 : ∀ k t, g k = some t → ∀ j, j ∈ t.ws → ∃ t', g j = some t' ∧ t'.st = 3 ∧ t'.on = k
  wn : ∀ k t, g k = some t → t.ws.Nodup
  w2 : ∀ k t, g k = some t → t.st = 3 → ∃ t', g t.on = some t' ∧ k ∈ t'.ws
structure IOk (m : MI) : Prop where
  nodup : (mkeys m.tasks).Nodup
  ig : IG (mget m.tasks) m.slots m.queue

theorem iok_new (n : Nat) : IOk ⟨[], List.replicate n e0, []⟩ := by
  refine ⟨List.nodup_nil, ⟨?_, ?_, ?_, List.nodup_nil, ?_, ?_, ?_, ?_, ?_, ?_, ?_⟩⟩
  all_goals first
    | (intro k t h; simp [mget] at h; done)
    | (intro k h; simp at h; done)
    | skip
  · intro k h h0
    exact absurd (List.mem_replicate.1 h).2 h0
  · intro i j k h _ h0
    exact absurd (List.mem_replicate.1 (List.mem_of_getElem? h)).2 h0

theorem mget_snoc {l : List MT} {t : MT} (h : mget l t.key = none) (k : Str) : mget (l ++ [t]) k = if k = t.key then some t else mget l k := by
  unfold mget at *
  rw [List.find?_append]
  by_cases e : k = t.key
  · subst e; rw [if_pos rfl, h]; simp
  · rw [if_neg e]
    cases hx : List.find? (fun t => bEq t.key k) l with
    | some x => rfl
    | none =>
      have : bEq t.key k = false := bEq_false.2 fun x => e x.symm
      simp [this]
theorem mget_none' {l : List MT} {k : Str} (h : mget l k = none) : k ∉ mkeys l := fun hm => by
  obtain ⟨t, ht, e⟩ := List.mem_map.1 hm
  have := List.find?_eq_none.1 h t ht
  rw [e] at this; simp at this
theorem iok_want1 {m : MI} {k : Str} (K : IOk m) (hk : k ≠ e0) : IOk (iwant1 m k) := by
  unfold iwant1
  cases e : mget m.tasks k with
  | some t => exact K
  | none =>
    have I := K.ig
    have hg : ∀ k', mget (m.tasks ++ [newMT k]) k' = if k' = k then some (newMT k) else mget m.tasks k' := mget_snoc (t := newMT k) e
    have old : ∀ k' t, mget m.tasks k' = some t → mget (m.tasks ++ [newMT k]) k' = some t := fun k' t h => by
      rw [hg, if_neg (fun x => by rw [x, e] at h; cases h)]; exact h
    have cs : ∀ k' t, mget (m.tasks ++ [newMT k]) k' = some t → (k' = k ∧ t = newMT k) ∨ mget m.tasks k' = some t := fun k' t h => by
      rw [hg] at h
      split at h
      · rename_i x; cases h; exact .inl ⟨x, rfl⟩
      · exact .inr h
    have hq : k ∉ m.queue := fun h => by
      obtain ⟨t, ht, _⟩ := I.q1 k h
      rw [e] at ht; cases ht
    refine ⟨?_, ⟨?_, ?_, ?_, ?_, ?_, ?_, I.sn, ?_, ?_, ?_, ?_⟩⟩
    · show (mkeys (m.tasks ++ [newMT k])).Nodup
      simp only [mkeys, List.map_append, List.map_cons, List.map_nil]
      rw [List.nodup_append]
      refine ⟨K.nodup, by simp, fun a ha b hb => ?_⟩
      simp [newMT] at hb; subst hb
      rintro rfl; exact mget_none' e ha
    · intro k' t h
      rcases cs k' t h with ⟨rfl, rfl⟩ | h
      · exact ⟨rfl, hk⟩
      · exact I.key k' t h
    · intro k' t h
      rcases cs k' t h with ⟨rfl, rfl⟩ | h
      · simp [newMT]
      · exact I.st k' t h
    · intro k' h
      rcases List.mem_append.1 h with h | h
      · obtain ⟨t, h1, h2⟩ := I.q1 k' h
        exact ⟨t, old _ _ h1, h2⟩
      · simp at h; subst h
        exact ⟨newMT k', by rw [hg, if_pos rfl], rfl⟩
    · rw [List.nodup_append]
      exact ⟨I.qn, by simp, fun a ha b hb => by simp at hb; subst hb; rintro rfl; exact hq ha⟩
    · intro k' t h h1
      rcases cs k' t h with ⟨rfl, rfl⟩ | h
      · simp
      · exact List.mem_append_left _ (I.q2 k' t h h1)
    · intro k' h h0
      obtain ⟨t, h1, h2⟩ := I.s1 k' h h0
      exact ⟨t, old _ _ h1, h2⟩
    · intro k' t h h1
      rcases cs k' t h with ⟨rfl, rfl⟩ | h
      · simp [newMT] at h1
      · exact I.s2 k' t h h1
    · intro k' t h j hj
      rcases cs k' t h with ⟨rfl, rfl⟩ | h
      · simp [newMT] at hj
      · obtain ⟨t', h1, h2⟩ := I.w1 k' t h j hj
        exact ⟨t', old _ _ h1, h2⟩
    · intro k' t h
      rcases cs k' t h with ⟨rfl, rfl⟩ | h
      · simp [newMT]
      · exact I.wn k' t h
    · intro k' t h h1
      rcases cs k' t h with ⟨rfl, rfl⟩ | h
      · simp [newMT] at h1
      · obtain ⟨t', h1, h2⟩ := I.w2 k' t h h1
        exact ⟨t', old _ _ h1, h2⟩
theorem iok_wants {ks : List Str} : ∀ {m : MI}, IOk m → e0 ∉ ks → IOk (ks.foldl iwant1 m) := by
  induction ks with
  | nil => intro m K _; exact K
  | cons k ks ih =>
    intro m K h
    exact ih (iok_want1 K fun e => h (by rw [e]; simp)) fun x => h (by simp [x])
theorem iok_want {m : MI} {ks : List Str} (K : IOk m) : IOk (iwant m ks).2 := by
  unfold iwant
  by_cases e : memB e0 ks = true
  · rw [if_pos e]; exact K
  · rw [if_neg e]
    exact iok_wants K (memB_not.1 (by simpa using e))
theorem gupd_cs {g : G} {k k' : Str} {f : MT → MT} {t : MT} (h : gupd g k f k' = some t) : (k' = k ∧ ∃ t0, g k = some t0 ∧ t = f t0) ∨ (k' ≠ k ∧ g k' = some t) := by
  unfold gupd at h
  split at h
  · rename_i e; subst e
    cases hx : g k' with
    | none => rw [hx] at h; cases h
    | some t0 => rw [hx] at h; exact .inl ⟨rfl, t0, rfl, by simpa using h.symm⟩
  · rename_i e; exact .inr ⟨e, h⟩
theorem gupd_same {g : G} {k : Str} {f : MT → MT} {t : MT} (h : g k = some t) : gupd g k f k = some (f t) := by simp [gupd, h]
theorem gupd_ne {g : G} {k k' : Str} {f : MT → MT} (h : k' ≠ k) : gupd g k f k' = g k' := by simp [gupd, h]
theorem mupL_nodup {l : List MT} {k : Str} {f : MT → MT} (hf : ∀ t, (f t).key = t.key) (h : (mkeys l).Nodup) : (mkeys (mupL l k f)).Nodup := by
  have : mkeys (mupL l k f) = mkeys l := by
    unfold mkeys mupL
    rw [List.map_map]
    refine List.map_congr_left fun t _ => ?_
    simp only [Function.comp]
    split
    · exact hf t
    · rfl
  rw [this]; exact h
theorem iok_fillAt {m : MI} {out : List Str} {i : Nat} (K : IOk m) : IOk (ifillAt m out i).1 := by
  unfold ifillAt
  split
  · rename_i s hs
    split
    · rename_i e; subst e
      split
      · rename_i k q hkq
        have I := K.ig
        have hkm : k ∈ m.queue := by rw [hkq]; simp
        obtain ⟨tk, htk, hst⟩ := I.q1 k hkm
        have hk0 := (I.key k tk htk).2
        have hqn : k ∉ q ∧ q.Nodup := by have := I.qn; rw [hkq] at this; exact List.nodup_cons.1 this
        have hlt := (List.getElem?_eq_some_iff.1 hs).1
        refine ⟨mupL_nodup (fun _ => rfl) K.nodup, ?_⟩
        simp only
        rw [mget_up (f := fun t => { t with st := 2, starts := t.starts + 1 }) (fun _ => rfl)]
        refine ⟨?_, ?_, ?_, hqn.2, ?_, ?_, ?_, ?_, ?_, ?_, ?_⟩
        · intro k' t h
          rcases gupd_cs h with ⟨rfl, t0, h0, rfl⟩ | ⟨_, h⟩
          · exact I.key k' t0 h0
          · exact I.key k' t h
        · intro k' t h
          rcases gupd_cs h with ⟨rfl, t0, h0, rfl⟩ | ⟨_, h⟩
          · simp
          · exact I.st k' t h
        · intro k' h
          obtain ⟨t, h1, h2⟩ := I.q1 k' (by rw [hkq]; simp [h])
          have hne : k' ≠ k := fun e => hqn.1 (e ▸ h)
          exact ⟨t, by rw [gupd_ne hne]; exact h1, h2⟩
        · intro k' t h h1
          rcases gupd_cs h with ⟨rfl, t0, h0, rfl⟩ | ⟨hne, h⟩
          · simp at h1
          · have := I.q2 k' t h h1
            rw [hkq] at this
            rcases List.mem_cons.1 this with x | x
            · exact absurd x hne
            · exact x
        · intro k' h h0
          rcases List.mem_or_eq_of_mem_set h with h | rfl
          · obtain ⟨t, h1, h2⟩ := I.s1 k' h h0
            have hne : k' ≠ k := fun e => by subst e; rw [htk] at h1; cases h1; omega
            exact ⟨t, by rw [gupd_ne hne]; exact h1, h2⟩
          · exact ⟨_, gupd_same htk, rfl⟩
        · have hks : ∀ j : Nat, m.slots[j]? ≠ some k := fun j hj => by
            obtain ⟨t, h1, h2⟩ := I.s1 k (List.mem_of_getElem? hj) hk0
            rw [htk] at h1; cases h1; omega
          intro a b k' ha hb h0
          rw [List.getElem?_set] at ha hb
          split at ha <;> split at hb
          · omega
          · rename_i e1 e2
            cases ha; exact absurd hb (hks b)
          · rename_i e1 e2
            cases hb; exact absurd ha (hks a)
          · exact I.sn a b k' ha hb h0
        · intro k' t h h1
          rcases gupd_cs h with ⟨rfl, t0, h0, rfl⟩ | ⟨hne, h⟩
          · exact List.mem_iff_getElem?.2 ⟨i, by simp [hlt]⟩
          · obtain ⟨j, hj⟩ := List.mem_iff_getElem?.1 (I.s2 k' t h h1)
            have hji : i ≠ j := fun e => by subst e; rw [hs] at hj; cases hj; exact (I.key _ t h).2 rfl
            exact List.mem_iff_getElem?.2 ⟨j, by rw [List.getElem?_set_ne hji]; exact hj⟩
        · intro k' t h j hj
          have hw : ∃ t0, mget m.tasks k' = some t0 ∧ t0.ws = t.ws := by
            rcases gupd_cs h with ⟨rfl, t0, h0, rfl⟩ | ⟨hne, h⟩
            · exact ⟨t0, h0, rfl⟩
            · exact ⟨t, h, rfl⟩
          obtain ⟨t0, h0, hw⟩ := hw
          obtain ⟨t', h1, h2, h3⟩ := I.w1 k' t0 h0 j (by rw [hw]; exact hj)
          have hne : j ≠ k := fun e => by subst e; rw [htk] at h1; cases h1; omega
          exact ⟨t', by rw [gupd_ne hne]; exact h1, h2, h3⟩
        · intro k' t h
          rcases gupd_cs h with ⟨rfl, t0, h0, rfl⟩ | ⟨hne, h⟩
          · exact I.wn k' t0 h0
          · exact I.wn k' t h
        · intro k' t h h1
          rcases gupd_cs h with ⟨rfl, t0, h0, rfl⟩ | ⟨hne, h⟩
          · simp at h1
          · obtain ⟨t', h2, h3⟩ := I.w2 k' t h h1
            by_cases e : t.on = k
            · exact ⟨{ t' with st := 2, starts := t'.starts + 1 }, by rw [e] at h2 ⊢; exact gupd_same h2, h3⟩
            · exact ⟨t', by rw [gupd_ne e]; exact h2, h3⟩
      · exact K
    · exact K
  · exact K
theorem iok_fill : ∀ (n : Nat) {m : MI} {out : List Str} {i : Nat}, IOk m → IOk (ifillFrom n m out i).1
  | 0, _, _, _, K => K
  | n + 1, _, _, _, K => iok_fill n (iok_fillAt K)
theorem ileave_at {g : G} {slots queue : List Str} {k : Str} (I : IG g slots queue) (hk : k ∈ slots) (h0 : k ≠ e0) : ∃ j, slots[j]? = some k ∧ ileave slots k = slots.set j e0 := by
  unfold ileave
  cases e : slots.findIdx? (fun t => bEq k t) with
  | none =>
    have := List.findIdx?_eq_none_iff.1 e k hk
    simp at this
  | some j =>
    obtain ⟨hj, h1, _⟩ := List.findIdx?_eq_some_iff_getElem.1 e
    exact ⟨j, by rw [List.getElem?_eq_getElem hj, ← bEq_iff.1 h1], rfl⟩
/-- A slot left. -/
theorem leave_sn {slots : List Str} {j : Nat} (sn : ∀ (i j : Nat) (k : Str), slots[i]? = some k → slots[j]? = some k → k ≠ e0 → i = j) : ∀ (a b : Nat) (k : Str), (slots.set j e0)[a]? = some k → (slots.set j e0)[b]? = some k → k ≠ e0 → a = b := by
  intro a b k ha hb h0
  rw [List.getElem?_set] at ha hb
  split at ha
  · split at ha
    · cases ha; exact absurd rfl h0
    · cases ha
  · split at hb
    · split at hb
      · cases hb; exact absurd rfl h0
      · cases hb
    · exact sn a b k ha hb h0
theorem leave_mem {slots : List Str} {j : Nat} {k x : Str} (hj : slots[j]? = some k) (sn : ∀ (i j : Nat) (k : Str), slots[i]? = some k → slots[j]? = some k → k ≠ e0 → i = j) (hk0 : k ≠ e0) (hx : x ≠ e0) : x ∈ slots.set j e0 ↔ x ∈ slots ∧ x ≠ k := by
  constructor
  · intro h
    obtain ⟨i, hi⟩ := List.mem_iff_getElem?.1 h
    rw [List.getElem?_set] at hi
    split at hi
    · split at hi
      · cases hi; exact absurd rfl hx
      · cases hi
    · rename_i hne
      refine ⟨List.mem_of_getElem? hi, fun e => hne ?_⟩
      subst e
      exact sn j i x hj hi hk0
  · rintro ⟨h, hne⟩
    obtain ⟨i, hi⟩ := List.mem_iff_getElem?.1 h
    refine List.mem_iff_getElem?.2 ⟨i, ?_⟩
    rw [List.getElem?_set_ne]
    · exact hi
    · rintro rfl; rw [hj] at hi; cases hi; exact hne rfl
def gm (g : G) (F : Str → MT → MT) : G := fun k => (g k).map (F k)
theorem gm_some {g : G} {F : Str → MT → MT} {k : Str} {t : MT} (h : gm g F k = some t) : ∃ t0, g k = some t0 ∧ t = F k t0 := by
  unfold gm at h
  cases hx : g k with
  | none => rw [hx] at h; cases h
  | some t0 => rw [hx] at h; exact ⟨t0, rfl, by simpa using h.symm⟩
theorem gm_of {g : G} {F : Str → MT → MT} {k : Str} {t : MT} (h : g k = some t) : gm g F k = some (F k t) := by simp [gm, h]
theorem gupd_gm {g : G} {k : Str} {f : MT → MT} : gupd g k f = gm g fun k' t => if k' = k then f t else t := by
  funext k'
  unfold gupd gm
  by_cases e : k' = k
  · simp [e]
  · simp [e]
theorem gm_gm {g : G} {F F' : Str → MT → MT} : gm (gm g F) F' = gm g fun k t => F' k (F k t) := by
  funext k
  unfold gm
  cases g k <;> rfl
theorem gm_congr {g : G} {F F' : Str → MT → MT} (h : ∀ k t, g k = some t → F k t = F' k t) : gm g F = gm g F' := by
  funext k
  unfold gm
  cases hx : g k with
  | none => rfl
  | some t => simp [h k t hx]

/-- Waiting. -/
def waitF (key on : Str) (k : Str) (t : MT) : MT := { t with st := if k = key then 3 else t.st, on := if k = key then on else t.on, ws := if k = on then t.ws ++ [key] else t.ws }
theorem ig_wait {g : G} {slots queue : List Str} {key on : Str} {t0 : MT} {j : Nat} (I : IG g slots queue) (hk : g key = some t0) (hst : t0.st = 2) (hon : ∃ t, g on = some t) (hj : slots[j]? = some key) : IG (gm g (waitF key on)) (slots.set j e0) queue := by
  have hk0 := (I.key key t0 hk).2
  have lm := fun x (hx : x ≠ e0) => leave_mem (x := x) hj I.sn hk0 hx
  refine ⟨?_, ?_, ?_, I.qn, ?_, ?_, leave_sn I.sn, ?_, ?_, ?_, ?_⟩
  · intro k t h
    obtain ⟨u, hu, rfl⟩ := gm_some h
    exact I.key k u hu
  · intro k t h
    obtain ⟨u, hu, rfl⟩ := gm_some h
    have := I.st k u hu
    unfold waitF
    simp only
    split <;> omega
  · intro k h
    obtain ⟨u, hu, h1⟩ := I.q1 k h
    have hne : k ≠ key := fun e => by subst e; rw [hk] at hu; cases hu; omega
    exact ⟨_, gm_of hu, by simp [waitF, hne, h1]⟩
  · intro k t h h1
    obtain ⟨u, hu, rfl⟩ := gm_some h
    have hne : k ≠ key := fun e => by subst e; simp [waitF] at h1
    exact I.q2 k u hu (by simpa [waitF, hne] using h1)
  · intro k h h0
    obtain ⟨h1, hne⟩ := (lm k h0).1 h
    obtain ⟨u, hu, h2⟩ := I.s1 k h1 h0
    exact ⟨_, gm_of hu, by simp [waitF, hne, h2]⟩
  · intro k t h h1
    obtain ⟨u, hu, rfl⟩ := gm_some h
    have hne : k ≠ key := fun e => by subst e; simp [waitF] at h1
    exact (lm k (I.key k u hu).2).2 ⟨I.s2 k u hu (by simpa [waitF, hne] using h1), hne⟩
  · intro k t h x hx
    obtain ⟨u, hu, rfl⟩ := gm_some h
    have old : x ∈ u.ws → ∃ t', gm g (waitF key on) x = some t' ∧ t'.st = 3 ∧ t'.on = k := fun hx => by
      obtain ⟨v, hv, h1, h2⟩ := I.w1 k u hu x hx
      have hne : x ≠ key := fun e => by subst e; rw [hk] at hv; cases hv; omega
      exact ⟨_, gm_of hv, by simp [waitF, hne, h1], by simp [waitF, hne, h2]⟩
    by_cases e : k = on
    · simp only [waitF, if_pos e] at hx
      rcases List.mem_append.1 hx with hx | hx
      · exact old hx
      · simp at hx; subst hx
        exact ⟨_, gm_of hk, by simp [waitF], by simp [waitF, e]⟩
    · simp only [waitF, if_neg e] at hx
      exact old hx
  · intro k t h
    obtain ⟨u, hu, rfl⟩ := gm_some h
    by_cases e : k = on
    · simp only [waitF, if_pos e]
      rw [List.nodup_append]
      refine ⟨I.wn k u hu, by simp, fun a ha b hb => ?_⟩
      simp at hb; subst hb
      rintro rfl
      obtain ⟨v, hv, h1, _⟩ := I.w1 k u hu a ha
      rw [hk] at hv; cases hv; omega
    · simp only [waitF, if_neg e]; exact I.wn k u hu
  · intro k t h h3
    obtain ⟨u, hu, rfl⟩ := gm_some h
    by_cases e : k = key
    · subst e
      obtain ⟨v, hv⟩ := hon
      refine ⟨_, by simp only [waitF, if_pos]; exact gm_of hv, by simp [waitF]⟩
    · obtain ⟨v, hv, h1⟩ := I.w2 k u hu (by simpa [waitF, e] using h3)
      refine ⟨_, by simp only [waitF, if_neg e]; exact gm_of hv, ?_⟩
      simp only [waitF]
      split
      · exact List.mem_append_left _ h1
      · exact h1
theorem mst_some {l : List MT} {k : Str} {n : Nat} (h : mst l k = n) (h0 : n ≠ 0) : ∃ t, mget l k = some t ∧ t.st = n := by
  unfold mst at h
  cases hx : mget l k with
  | none => rw [hx] at h; exact absurd h.symm h0
  | some t => rw [hx] at h; exact ⟨t, rfl, h⟩
theorem iwant1_get {m : MI} {on : Str} : (∃ t, mget (iwant1 m on).tasks on = some t) ∧ (∀ k t, mget m.tasks k = some t → mget (iwant1 m on).tasks k = some t) ∧ (iwant1 m on).slots = m.slots := by
  unfold iwant1
  cases e : mget m.tasks on with
  | some t => exact ⟨⟨t, e⟩, fun k t h => h, rfl⟩
  | none =>
    have hg := mget_snoc (t := newMT on) e
    refine ⟨⟨newMT on, by rw [hg]; exact if_pos rfl⟩, fun k t h => ?_, rfl⟩
    show mget (m.tasks ++ [newMT on]) k = some t
    rw [hg, if_neg (fun x => by
      have x : k = on := x
      rw [x, e] at h; cases h)]
    exact h
theorem iok_wait {m : MI} {key on : Str} (K : IOk m) : IOk (iwait m key on).2.2 := by
  unfold iwait
  split
  · exact K
  rename_i h1
  split
  · exact K
  rename_i h2
  split
  · exact K
  have K1 := iok_want1 K h1
  obtain ⟨hon, hk, hsl⟩ := iwant1_get (m := m) (on := on)
  obtain ⟨t0, ht0, hst⟩ := mst_some (Decidable.byContradiction h2) (by omega)
  have ht1 := hk _ _ ht0
  have I := K1.ig
  have hk0 := (I.key key t0 ht1).2
  obtain ⟨j, hj, hl⟩ := ileave_at I (I.s2 key t0 ht1 hst) hk0
  simp only
  refine ⟨mupL_nodup (fun _ => rfl) (mupL_nodup (fun _ => rfl) K1.nodup), ?_⟩
  simp only
  rw [mget_up (f := fun t => { t with ws := t.ws ++ [key] }) (fun _ => rfl), mget_up (f := fun t => { t with st := 3, on := on }) (fun _ => rfl), gupd_gm, gupd_gm, gm_gm, hl]
  have := ig_wait I ht1 hst hon hj
  rw [gm_congr (F' := waitF key on)]
  · exact this
  · intro k t _
    unfold waitF
    by_cases e1 : k = key
    · by_cases e2 : k = on
      · simp only [if_pos e1, if_pos e2]
      · simp only [if_pos e1, if_neg e2]
    · by_cases e2 : k = on
      · simp only [if_neg e1, if_pos e2]
      · simp only [if_neg e1, if_neg e2]

/-- Ending: of the task of key, in the list of on (where it waits); ws are woken. -/
def doneF (key : Str) (on : Option Str) (W : List Str) (k : Str) (t : MT) : MT :=
  { t with st := if k = key then 4 else if k ∈ W then 1 else t.st, ws := if k = key then [] else if on = some k then t.ws.filter fun x => !bEq x key else t.ws }
theorem ig_done {g : G} {slots queue slots' : List Str} {key : Str} {t0 : MT} {on : Option Str} {W : List Str} (I : IG g slots queue) (hk : g key = some t0)
    (hst : (t0.st = 2 ∧ on = none ∧ ∃ j, slots[j]? = some key ∧ slots' = slots.set j e0) ∨ (t0.st = 3 ∧ on = some t0.on ∧ slots' = slots)) (hW : W = t0.ws.filter fun x => !bEq x key) : IG (gm g (doneF key on W)) slots' (queue ++ W) := by
  have hk0 := (I.key key t0 hk).2
  have inW : ∀ k, k ∈ W ↔ (∃ u, g k = some u ∧ u.st = 3 ∧ u.on = key) ∧ k ≠ key := by
    intro k
    rw [hW, List.mem_filter]
    constructor
    · rintro ⟨h1, h2⟩
      have hne : k ≠ key := fun e => by subst e; simp at h2
      exact ⟨I.w1 key t0 hk k h1, hne⟩
    · rintro ⟨⟨u, hu, h3, ho⟩, hne⟩
      obtain ⟨v, hv, hm⟩ := I.w2 k u hu h3
      rw [ho, hk] at hv; cases hv
      exact ⟨hm, by rw [bEq_false.2 hne]; rfl⟩
  have Wst : ∀ {k u}, k ∈ W → g k = some u → u.st = 3 ∧ u.on = key := fun {k u} h hu => by
    obtain ⟨⟨v, hv, h1⟩, _⟩ := (inW k).1 h
    rw [hu] at hv; cases hv; exact h1
  have Wne : ∀ {k}, k ∈ W → k ≠ key := fun {k} h => ((inW k).1 h).2
  have hslm : ∀ x, x ≠ e0 → (x ∈ slots' ↔ x ∈ slots ∧ x ≠ key) := by
    intro x hx
    rcases hst with ⟨h2, _, j, hj, rfl⟩ | ⟨h3, _, rfl⟩
    · exact leave_mem hj I.sn hk0 hx
    · refine ⟨fun h => ⟨h, fun e => ?_⟩, fun h => h.1⟩
      subst e
      obtain ⟨u, hu, h2⟩ := I.s1 x h hx
      rw [hk] at hu; cases hu; omega
  have hq : key ∉ queue := fun h => by
    obtain ⟨u, hu, h1⟩ := I.q1 key h
    rw [hk] at hu; cases hu
    rcases hst with ⟨h2, _⟩ | ⟨h3, _⟩ <;> omega
  have F1 : ∀ {k u}, g k = some u → k ≠ key → k ∉ W → (doneF key on W k u).st = u.st := fun {k u} _ h1 h2 => by simp [doneF, h1, h2]
  refine ⟨?_, ?_, ?_, ?_, ?_, ?_, ?_, ?_, ?_, ?_, ?_⟩
  · intro k t h
    obtain ⟨u, hu, rfl⟩ := gm_some h
    exact I.key k u hu
  · intro k t h
    obtain ⟨u, hu, rfl⟩ := gm_some h
    have := I.st k u hu
    unfold doneF
    simp only
    split
    · omega
    · split <;> omega
  · intro k h
    rcases List.mem_append.1 h with h | h
    · obtain ⟨u, hu, h1⟩ := I.q1 k h
      have hne : k ≠ key := fun e => hq (e ▸ h)
      have hnW : k ∉ W := fun h => by have := (Wst h hu).1; omega
      exact ⟨_, gm_of hu, by rw [F1 hu hne hnW]; exact h1⟩
    · obtain ⟨⟨u, hu, _⟩, hne⟩ := (inW k).1 h
      exact ⟨_, gm_of hu, by simp [doneF, hne, h]⟩
  · rw [List.nodup_append]
    refine ⟨I.qn, by rw [hW]; exact (I.wn key t0 hk).filter _, fun a ha b hb => ?_⟩
    rintro rfl
    obtain ⟨u, hu, h1⟩ := I.q1 a ha
    have := (Wst hb hu).1; omega
  · intro k t h h1
    obtain ⟨u, hu, rfl⟩ := gm_some h
    have hne : k ≠ key := fun e => by subst e; simp [doneF] at h1
    by_cases hw : k ∈ W
    · exact List.mem_append_right _ hw
    · rw [F1 hu hne hw] at h1
      exact List.mem_append_left _ (I.q2 k u hu h1)
  · intro k h h0
    obtain ⟨h1, hne⟩ := (hslm k h0).1 h
    obtain ⟨u, hu, h2⟩ := I.s1 k h1 h0
    have hnW : k ∉ W := fun h => by have := (Wst h hu).1; omega
    exact ⟨_, gm_of hu, by rw [F1 hu hne hnW]; exact h2⟩
  · rcases hst with ⟨_, _, j, _, rfl⟩ | ⟨_, _, rfl⟩
    · exact leave_sn I.sn
    · exact I.sn
  · intro k t h h2
    obtain ⟨u, hu, rfl⟩ := gm_some h
    have hne : k ≠ key := fun e => by subst e; simp [doneF] at h2
    have hnW : k ∉ W := fun hw => by simp [doneF, hne, hw] at h2
    rw [F1 hu hne hnW] at h2
    exact (hslm k (I.key k u hu).2).2 ⟨I.s2 k u hu h2, hne⟩
  · intro k t h x hx
    obtain ⟨u, hu, rfl⟩ := gm_some h
    have hne : k ≠ key := fun e => by subst e; simp [doneF] at hx
    have hxu : x ∈ u.ws ∧ (on = some k → x ≠ key) := by
      simp only [doneF, if_neg hne] at hx
      split at hx
      · rw [List.mem_filter] at hx
        exact ⟨hx.1, fun _ e => by subst e; simp at hx⟩
      · rename_i ho; exact ⟨hx, fun e => absurd e ho⟩
    obtain ⟨v, hv, h3, ho⟩ := I.w1 k u hu x hxu.1
    have hxk : x ≠ key := fun e => by
      subst e
      rw [hk] at hv; cases hv
      rcases hst with ⟨h2, _⟩ | ⟨_, h4, _⟩
      · omega
      · exact hxu.2 (by rw [h4, ho]) rfl
    have hxW : x ∉ W := fun hw => hne (by have := (Wst hw hv).2; rw [← this, ho])
    exact ⟨_, gm_of hv, by rw [F1 hv hxk hxW]; exact h3, ho⟩
  · intro k t h
    obtain ⟨u, hu, rfl⟩ := gm_some h
    simp only [doneF]
    split
    · exact List.nodup_nil
    · split
      · exact (I.wn k u hu).filter _
      · exact I.wn k u hu
  · intro k t h h3
    obtain ⟨u, hu, rfl⟩ := gm_some h
    have hne : k ≠ key := fun e => by subst e; simp [doneF] at h3
    have hnW : k ∉ W := fun hw => by simp [doneF, hne, hw] at h3
    rw [F1 hu hne hnW] at h3
    obtain ⟨v, hv, hm⟩ := I.w2 k u hu h3
    have hon : u.on ≠ key := fun e => hnW ((inW k).2 ⟨⟨u, hu, h3, e⟩, hne⟩)
    refine ⟨_, gm_of hv, ?_⟩
    show k ∈ (doneF key on W u.on v).ws
    simp only [doneF, if_neg hon]
    split
    · rw [List.mem_filter]; exact ⟨hm, by rw [bEq_false.2 hne]; rfl⟩
    · exact hm
/-- All that are woken. -/
theorem wake_all {key : Str} : ∀ (ws : List Str) (l : List MT) (s q : List Str), ∃ l', ws.foldl (fun m k => if k = key then m else ready m k) ⟨l, s, q⟩ = ⟨l', s, q ++ ws.filter fun x => !bEq x key⟩ ∧ mkeys l' = mkeys l ∧ mget l' = gm (mget l) fun k t => if k ∈ (ws.filter fun x => !bEq x key) then { t with st := 1 } else t
  | [], l, s, q => ⟨l, by simp, rfl, by
      funext k; unfold gm; cases mget l k <;> simp⟩
  | k :: ws, l, s, q => by
    rw [List.foldl_cons]
    by_cases e : k = key
    · obtain ⟨l', h1, h2, h3⟩ := wake_all (key := key) ws l s q
      have hf : ((k :: ws).filter fun x => !bEq x key) = ws.filter fun x => !bEq x key := by simp [e]
      rw [if_pos e, hf]
      exact ⟨l', h1, h2, h3⟩
    · have hf : ((k :: ws).filter fun x => !bEq x key) = k :: ws.filter fun x => !bEq x key := by simp [bEq_false.2 e]
      rw [if_neg e, hf]
      obtain ⟨l', h1, h2, h3⟩ := wake_all (key := key) ws (mupL l k fun t => { t with st := 1 }) s (q ++ [k])
      refine ⟨l', by simpa [ready] using h1, h2.trans ?_, ?_⟩
      · unfold mkeys mupL
        rw [List.map_map]
        refine List.map_congr_left fun t _ => ?_
        simp only [Function.comp]
        split <;> rfl
      · rw [h3, mget_up (f := fun t => { t with st := 1 }) (fun _ => rfl), gupd_gm, gm_gm]
        refine gm_congr fun k' t _ => ?_
        by_cases e1 : k' = k
        · subst e1
          simp
        · simp [e1]
theorem idone_cases (m : MI) (key : Str) (K : IOk m) : (idone m key = (4, m) ∧ ∀ t, mget m.tasks key = some t → t.st ≠ 2 ∧ t.st ≠ 3) ∨
    ∃ t0 on slots', mget m.tasks key = some t0 ∧ ((t0.st = 2 ∧ on = none ∧ ∃ j, m.slots[j]? = some key ∧ slots' = m.slots.set j e0) ∨ (t0.st = 3 ∧ on = some t0.on ∧ slots' = m.slots)) ∧
      ∃ l', idone m key = (0, ⟨l', slots', m.queue ++ t0.ws.filter fun x => !bEq x key⟩) ∧ mkeys l' = mkeys m.tasks ∧ mget l' = gm (mget m.tasks) (doneF key on (t0.ws.filter fun x => !bEq x key)) := by
  have I := K.ig
  unfold idone
  cases hk : mget m.tasks key with
  | none => exact .inl ⟨rfl, fun t h => (by cases h)⟩
  | some t0 =>
    simp only
    have hk0 := (I.key key t0 hk).2
    split
    · rename_i hst
      refine .inr ?_
      have hkeys : ∀ (l : List MT) (k : Str) (f : MT → MT), (∀ t, (f t).key = t.key) → mkeys (mupL l k f) = mkeys l := by
        intro l k f hf
        unfold mkeys mupL
        rw [List.map_map]
        refine List.map_congr_left fun t _ => ?_
        simp only [Function.comp]
        split
        · exact hf t
        · rfl
      -- the state ahead of the waking
      have core : ∀ (l1 : List MT) (slots' : List Str) (on : Option Str), mkeys l1 = mkeys m.tasks → mget l1 = gm (mget m.tasks) (fun k t => if on = some k then { t with ws := t.ws.filter fun x => !bEq x key } else t) →
          ∃ l', (let l2 := mupL l1 key fun t => { t with st := 4 }
                 let ws := match mget l2 key with | some t => t.ws | none => []
                 let m3 := ws.foldl (fun m k => if k = key then m else ready m k) ⟨l2, slots', m.queue⟩
                 ((0, { m3 with tasks := mupL m3.tasks key fun t => { t with ws := [] } }) : Nat × MI)) = (0, ⟨l', slots', m.queue ++ t0.ws.filter fun x => !bEq x key⟩) ∧ mkeys l' = mkeys m.tasks ∧ mget l' = gm (mget m.tasks) (doneF key on (t0.ws.filter fun x => !bEq x key)) := by
        intro l1 slots' on hk1 hg1
        have hg2 : mget (mupL l1 key fun t => { t with st := 4 }) = gm (mget m.tasks) fun k t => { (if on = some k then { t with ws := t.ws.filter fun x => !bEq x key } else t) with st := if k = key then 4 else t.st } := by
          rw [mget_up (f := fun t => { t with st := 4 }) (fun _ => rfl), hg1, gupd_gm, gm_gm]
          refine gm_congr fun k t _ => ?_
          by_cases e1 : k = key <;> by_cases e2 : on = some k <;> simp [e1, e2] <;> split <;> rfl
        have hws : (match mget (mupL l1 key fun t => { t with st := 4 }) key with | some t => t.ws | none => []).filter (fun x => !bEq x key) = t0.ws.filter fun x => !bEq x key := by
          rw [hg2, gm_of hk]
          simp only
          split
          · rw [List.filter_filter]; simp
          · rfl
        obtain ⟨l', h1, h2, h3⟩ := wake_all (key := key) (match mget (mupL l1 key fun t => { t with st := 4 }) key with | some t => t.ws | none => []) (mupL l1 key fun t => { t with st := 4 }) slots' m.queue
        rw [hws] at h1 h3
        refine ⟨mupL l' key fun t => { t with ws := [] }, ?_, ?_, ?_⟩
        · simp only [h1]
        · exact (hkeys l' key (fun t => { t with ws := [] }) (fun _ => rfl)).trans (h2.trans ((hkeys l1 key (fun t => { t with st := 4 }) (fun _ => rfl)).trans hk1))
        · rw [mget_up (f := fun t => { t with ws := [] }) (fun _ => rfl), h3, hg2, gupd_gm, gm_gm, gm_gm]
          refine gm_congr fun k t _ => ?_
          unfold doneF
          by_cases e1 : k = key
          · have hn : k ∉ (t0.ws.filter fun x => !bEq x key) := by rw [List.mem_filter, e1]; simp
            simp only [if_pos e1, if_neg hn]
            split <;> rfl
          · simp only [if_neg e1]
            by_cases e2 : k ∈ (t0.ws.filter fun x => !bEq x key)
            · simp only [if_pos e2]; split <;> rfl
            · simp only [if_neg e2]; split <;> rfl
      rcases hst with h2 | h3
      · obtain ⟨j, hj, hl⟩ := ileave_at I (I.s2 key t0 hk h2) hk0
        refine ⟨t0, none, m.slots.set j e0, rfl, .inl ⟨h2, rfl, j, hj, rfl⟩, ?_⟩
        rw [if_neg (by omega), if_pos h2, hl]
        exact core m.tasks _ none rfl (by
          funext k; unfold gm; cases mget m.tasks k <;> simp)
      · refine ⟨t0, some t0.on, m.slots, rfl, .inr ⟨h3, rfl, rfl⟩, ?_⟩
        rw [if_pos h3, if_neg (by omega)]
        refine core _ _ (some t0.on) (hkeys _ _ _ (fun _ => rfl)) ?_
        rw [mget_up (f := fun t => { t with ws := t.ws.filter fun k => !bEq k key }) (fun _ => rfl), gupd_gm]
        refine gm_congr fun k t _ => ?_
        by_cases e : k = t0.on
        · subst e; simp
        · have : ¬ some t0.on = some k := fun x => e (Option.some.inj x).symm
          simp [e, this]
    · rename_i hst
      exact .inl ⟨rfl, fun t h => by cases h; exact ⟨fun x => hst (.inl x), fun x => hst (.inr x)⟩⟩
theorem iok_done {m : MI} {key : Str} (K : IOk m) : IOk (idone m key).2 := by
  rcases idone_cases m key K with ⟨h, _⟩ | ⟨t0, on, slots', hk, hst, l', h, hkeys, hg⟩
  · rw [h]; exact K
  · rw [h]
    refine ⟨?_, ?_⟩
    · show (mkeys l').Nodup
      rw [hkeys]; exact K.nodup
    · show IG (mget l') _ _
      rw [hg]
      exact ig_done K.ig hk hst rfl
end Go.Abs.Sch
end

section
/- The scheduler as it is made: sizes; what picking finds. No Go in it. -/
namespace Go.Abs.Sch
open Go.Abs

theorem nodup_sub : ∀ {l l' : List Str}, l.Nodup → (∀ x, x ∈ l → x ∈ l') → l.length ≤ l'.length
  | [], l', _, _ => by simp
  | x :: l, l', hn, hs => by
    obtain ⟨s, t, rfl⟩ := List.append_of_mem (hs x (by simp))
    have hn := List.nodup_cons.1 hn
    have := nodup_sub (l := l) (l' := s ++ t) hn.2 fun y hy => by
      have := hs y (by simp [hy])
      simp only [List.mem_append, List.mem_cons] at this ⊢
      rcases this with h | h | h
      · exact .inl h
      · subst h; exact absurd hy hn.1
      · exact .inr h
    simp at this ⊢; omega
theorem IOk.mem {m : MI} (K : IOk m) {t : MT} (h : t ∈ m.tasks) : mget m.tasks t.key = some t := mget_of_mem K.nodup h
theorem get_keys {l : List MT} {k : Str} {t : MT} (h : mget l k = some t) : k ∈ mkeys l := List.mem_map.2 ⟨t, mget_mem' h, mget_key h⟩
theorem IOk.queue_le {m : MI} (K : IOk m) : m.queue.length ≤ m.tasks.length := by
  have := nodup_sub (l' := mkeys m.tasks) K.ig.qn fun k hk => by
    obtain ⟨t, ht, _⟩ := K.ig.q1 k hk
    exact get_keys ht
  simpa [mkeys] using this
theorem IOk.ws_le {m : MI} (K : IOk m) {t : MT} (h : t ∈ m.tasks) : t.ws.length ≤ m.tasks.length := by
  have := nodup_sub (l' := mkeys m.tasks) (K.ig.wn t.key t (K.mem h)) fun k hk => by
    obtain ⟨t', ht, _⟩ := K.ig.w1 t.key t (K.mem h) k hk
    exact get_keys ht
  simpa [mkeys] using this
def StB (m : MI) (B : Nat) : Prop := ∀ t, t ∈ m.tasks → t.starts ≤ B
theorem StB.mono {m : MI} {B B' : Nat} (h : StB m B) (hb : B ≤ B') : StB m B' := fun t ht => Nat.le_trans (h t ht) hb
theorem stB_up {l : List MT} {k : Str} {f : MT → MT} {s q : List Str} {s' q' : List Str} {B : Nat} (h : StB ⟨l, s, q⟩ B) (hf : ∀ t, (f t).starts = t.starts) : StB ⟨mupL l k f, s', q'⟩ B := by
  intro t ht
  obtain ⟨z, hz, e⟩ := List.mem_map.1 ht
  have := h z hz
  rw [← e]; split
  · rw [hf]; exact this
  · exact this
theorem stB_want1 {m : MI} {k : Str} {B : Nat} (h : StB m B) : StB (iwant1 m k) B := by
  unfold iwant1
  split
  · exact h
  · intro t ht
    rcases List.mem_append.1 ht with ht | ht
    · exact h t ht
    · simp at ht; subst ht; simp [newMT]
theorem stB_wants {ks : List Str} {B : Nat} : ∀ {m : MI}, StB m B → StB (ks.foldl iwant1 m) B := by
  induction ks with
  | nil => intro m h; exact h
  | cons k ks ih => intro m h; exact ih (stB_want1 h)
theorem stB_fillAt {m : MI} {out : List Str} {i B : Nat} (h : StB m B) : StB (ifillAt m out i).1 (B + 1) := by
  unfold ifillAt
  split
  · split
    · split
      · intro t ht
        obtain ⟨z, hz, e⟩ := List.mem_map.1 ht
        have := h z hz
        rw [← e]; split
        · simp only; omega
        · omega
      · exact h.mono (by omega)
    · exact h.mono (by omega)
  · exact h.mono (by omega)
theorem stB_fill : ∀ (n : Nat) {m : MI} {out : List Str} {i B : Nat}, StB m B → StB (ifillFrom n m out i).1 (B + n)
  | 0, _, _, _, _, h => h
  | n + 1, m, out, i, B, h => by
    have := stB_fill n (m := (ifillAt m out i).1) (out := (ifillAt m out i).2) (i := i + 1) (stB_fillAt (i := i) (out := out) h)
    rw [show B + (n + 1) = B + 1 + n from by omega]
    exact this
theorem fillAt_len {m : MI} {out : List Str} {i : Nat} : (ifillAt m out i).1.tasks.length = m.tasks.length ∧ (ifillAt m out i).1.slots.length = m.slots.length := by
  unfold ifillAt
  split
  · split
    · split
      · simp [mupL]
      · simp
    · simp
  · simp
theorem fill_len : ∀ (n : Nat) {m : MI} {out : List Str} {i : Nat}, (ifillFrom n m out i).1.tasks.length = m.tasks.length ∧ (ifillFrom n m out i).1.slots.length = m.slots.length
  | 0, _, _, _ => ⟨rfl, rfl⟩
  | n + 1, m, out, i => by
    have h1 := fill_len n (m := (ifillAt m out i).1) (out := (ifillAt m out i).2) (i := i + 1)
    have h2 := fillAt_len (m := m) (out := out) (i := i)
    exact ⟨h1.1.trans h2.1, h1.2.trans h2.2⟩
theorem want1_len {m : MI} {k : Str} : (iwant1 m k).tasks.length ≤ m.tasks.length + 1 ∧ (iwant1 m k).slots = m.slots := by
  unfold iwant1
  split <;> simp
theorem wants_len {ks : List Str} : ∀ {m : MI}, (ks.foldl iwant1 m).tasks.length ≤ m.tasks.length + ks.length ∧ (ks.foldl iwant1 m).slots = m.slots := by
  induction ks with
  | nil => intro m; simp
  | cons k ks ih =>
    intro m
    have h1 := ih (m := iwant1 m k)
    have h2 := want1_len (m := m) (k := k)
    simp only [List.foldl_cons, List.length_cons]
    exact ⟨by omega, h1.2.trans h2.2⟩

/-! Picking. -/
theorem pickFrom_none {slots : List Str} {a : Nat} : ∀ (d i : Nat), pickFrom slots a d i = none ↔ ∀ j, i ≤ j → j < i + d → slots.getD ((a + j) % slots.length) e0 = e0
  | 0, i => by simp [pickFrom]; intro j; omega
  | d + 1, i => by
    rw [pickFrom]
    split
    · rename_i e
      rw [pickFrom_none d (i + 1)]
      refine ⟨fun h j h1 h2 => ?_, fun h j h1 h2 => h j (by omega) (by omega)⟩
      by_cases hj : j = i
      · subst hj; exact e
      · exact h j (by omega) (by omega)
    · rename_i e
      simp only [reduceCtorEq, false_iff]
      exact fun h => e (h i (Nat.le_refl _) (by omega))
theorem pickFrom_some {slots : List Str} {a : Nat} : ∀ (d i : Nat) {s : Str}, pickFrom slots a d i = some s → s ≠ e0 ∧ s ∈ slots
  | 0, i, s, h => by simp [pickFrom] at h
  | d + 1, i, s, h => by
    rw [pickFrom] at h
    split at h
    · exact pickFrom_some d (i + 1) h
    · rename_i e
      cases h
      refine ⟨e, ?_⟩
      rw [List.getD_eq_getElem?_getD] at e ⊢
      cases hx : slots[(a + i) % slots.length]? with
      | none => rw [hx] at e; exact absurd rfl e
      | some y => exact List.mem_of_getElem? hx
/-- None is picked just where all slots are idle. -/
theorem pick_idle {slots : List Str} (h0 : 0 < slots.length) (n : Int) : pickFrom slots (pickAt slots.length n) slots.length 0 = none ↔ ∀ s, s ∈ slots → s = e0 := by
  rw [pickFrom_none]
  constructor
  · intro h s hs
    obtain ⟨i, hi, e⟩ := List.getElem_of_mem hs
    have ha := pickAt_lt h0 n
    generalize pickAt slots.length n = a at *
    obtain ⟨j, hj, e2⟩ : ∃ j, j < slots.length ∧ (a + j) % slots.length = i := by
      by_cases h1 : a ≤ i
      · exact ⟨i - a, by omega, by rw [show a + (i - a) = i from by omega]; exact Nat.mod_eq_of_lt hi⟩
      · refine ⟨i + slots.length - a, by omega, ?_⟩
        rw [show a + (i + slots.length - a) = i + slots.length from by omega, Nat.add_mod_right]; exact Nat.mod_eq_of_lt hi
    have := h j (by omega) (by omega)
    rw [e2] at this
    rw [← e]; simpa [List.getD_eq_getElem?_getD, hi] using this
  · intro h j _ hj
    have hm : (pickAt slots.length n + j) % slots.length < slots.length := Nat.mod_lt _ h0
    rw [List.getD_eq_getElem?_getD, List.getElem?_eq_getElem hm]
    exact h _ (List.getElem_mem hm)
theorem many_zero {l : List MT} {s : Nat} (h0 : s ≠ 0) : manyOf l s = 0 ↔ ∀ t, t ∈ l → t.st ≠ s := by
  unfold manyOf
  rw [if_neg h0]
  constructor
  · intro h t ht e
    have : l.countP (fun t => t.st == s) = 0 := by omega
    rw [List.countP_eq_zero] at this
    exact this t ht (by simp [e])
  · intro h
    have : l.countP (fun t => t.st == s) = 0 := List.countP_eq_zero.2 fun t ht => by simpa using h t ht
    omega
theorem many_nonneg {l : List MT} {s : Nat} (h0 : s ≠ 0) : 0 ≤ manyOf l s := by
  unfold manyOf; rw [if_neg h0]; omega
/-- Whom Pick finds. -/
theorem IOk.pick {m : MI} (K : IOk m) (h0 : 0 < m.slots.length) (n : Int) : manyOf m.tasks 2 = 0 ↔ pickFrom m.slots (pickAt m.slots.length n) m.slots.length 0 = none := by
  rw [pick_idle h0, many_zero (by omega)]
  constructor
  · intro h s hs
    apply Decidable.byContradiction
    intro hne
    obtain ⟨t, ht, h2⟩ := K.ig.s1 s hs hne
    exact h t (mget_mem' ht) h2
  · intro h t ht h2
    have := K.ig.s2 t.key t (K.mem ht) h2
    exact (K.ig.key t.key t (K.mem ht)).2 (h _ this)

/-- Within sizes. -/
structure Sz (m : MI) (B : Nat) : Prop where
  nt : m.tasks.length ≤ 900
  ns : m.slots.length ≤ 64
  st : StB m B
theorem sz_new {n : Nat} (h : n ≤ 64) : Sz ⟨[], List.replicate n e0, []⟩ 0 := ⟨by simp, by simpa using h, fun t ht => by simp at ht⟩
theorem sz_want {m : MI} {B : Nat} {ks : List Str} (S : Sz m B) (h : m.tasks.length + ks.length ≤ 900) : Sz (iwant m ks).2 B := by
  unfold iwant
  split
  · exact S
  · have := wants_len (ks := ks) (m := m)
    exact ⟨by simp only; omega, by simp only [this.2]; exact S.ns, stB_wants S.st⟩
theorem sz_fill {m : MI} {B : Nat} {out : List Str} {i : Nat} (n : Nat) (S : Sz m B) : Sz (ifillFrom n m out i).1 (B + n) := by
  have := fill_len n (m := m) (out := out) (i := i)
  exact ⟨by rw [this.1]; exact S.nt, by rw [this.2]; exact S.ns, stB_fill n S.st⟩
theorem ileave_len {slots : List Str} {k : Str} : (ileave slots k).length = slots.length := by
  unfold ileave; split <;> simp
theorem sz_wait {m : MI} {B : Nat} {key on : Str} (S : Sz m B) (h : m.tasks.length + 1 ≤ 900) : Sz (iwait m key on).2.2 B ∧ (iwait m key on).2.2.tasks.length ≤ m.tasks.length + 1 ∧ (iwait m key on).2.2.slots.length = m.slots.length := by
  unfold iwait
  split
  · exact ⟨S, by simp, rfl⟩
  split
  · exact ⟨S, by simp, rfl⟩
  split
  · exact ⟨S, by simp, rfl⟩
  have h1 := want1_len (m := m) (k := on)
  have h2 := stB_want1 (k := on) S.st
  simp only
  refine ⟨⟨by simp only [mupL, List.length_map]; omega, by simp only [ileave_len, h1.2]; exact S.ns, ?_⟩, by simp only [mupL, List.length_map]; omega, by simp only [ileave_len, h1.2]⟩
  have a1 : StB ⟨mupL (iwant1 m on).tasks key fun t => { t with st := 3, on := on }, [], []⟩ B := stB_up (s := (iwant1 m on).slots) (q := (iwant1 m on).queue) h2 (fun _ => rfl)
  exact stB_up (f := fun t => { t with ws := t.ws ++ [key] }) a1 (fun _ => rfl)
theorem sz_done {m : MI} {B : Nat} {key : Str} (K : IOk m) (S : Sz m B) : Sz (idone m key).2 B ∧ (idone m key).2.tasks.length = m.tasks.length ∧ (idone m key).2.slots.length = m.slots.length := by
  have K' := iok_done (key := key) K
  rcases idone_cases m key K with ⟨h, _⟩ | ⟨t0, on, slots', hk, hst, l', h, hkeys, hg⟩
  · rw [h]; exact ⟨S, rfl, rfl⟩
  · rw [h] at K' ⊢
    have hl : l'.length = m.tasks.length := by have := congrArg List.length hkeys; simpa [mkeys] using this
    have hsl : slots'.length = m.slots.length := by
      rcases hst with ⟨_, _, j, _, rfl⟩ | ⟨_, _, rfl⟩ <;> simp
    refine ⟨⟨by rw [show (⟨l', slots', m.queue ++ t0.ws.filter fun x => !bEq x key⟩ : MI).tasks.length = l'.length from rfl, hl]; exact S.nt, by simp only [hsl]; exact S.ns, fun t ht => ?_⟩, hl, hsl⟩
    have := K'.mem ht
    simp only at this
    rw [hg] at this
    obtain ⟨u, hu, e⟩ := gm_some this
    rw [e]
    exact S.st u (mget_mem' hu)
end Go.Abs.Sch
end
