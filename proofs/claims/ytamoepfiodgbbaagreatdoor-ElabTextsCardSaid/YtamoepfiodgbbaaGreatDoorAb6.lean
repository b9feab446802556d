/- A deterministic heap for the model, proved sound, and walks of the program over it: part 6. No condition. -/
import Derived.Test.YtamoepfiodgbbaaGreatDoorAb1
import Derived.Test.YtamoepfiodgbbaaGreatDoorAb2
import Derived.Test.YtamoepfiodgbbaaGreatDoorAb4
import Derived.Test.YtamoepfiodgbbaaGreatDoorAb3
import Derived.ProofKit
import Derived.Conc.Holds
import Derived.Lib.LaidTab
import Derived.Deep.DeepHandedRow
import Derived.Stop.LaidErr
import Derived.Test.YtamoepfiodgbbaaGreatDoorAb5
import Derived.Carry
import Derived.ChangeArms
set_option linter.unusedVariables false
set_option linter.unusedSimpArgs false
set_option linter.unusedSectionVars false
section
/- A region whose order is open, joined. -/
open Go.RowKit
namespace Go.Abs
variable {B0 : Zn} {w0 : World} {φ ψ : Map} {h h' h0 : AW} {w : World} {P : Program}

structure Inv (P : Program) (B0 : Zn) (w0 : World) (ops : Array Oper) (tr : List St) (h0 : AW) (F0 : Fr) (ψ : Map) (listed : Array Bool) (k : Nat) (a : Act) (w : World) : Prop where
  size : listed.size = ops.size
  down : ∀ (j : Nat) (oj : Oper), ops.toList[j]? = some oj → listed[j]? = some true → ∀ e, e ∈ oj.after.toList → Region.binds .any e = true → listed[e.on]? = some true
  kle : k ≤ (acts 0 tr).length
  kth : ∀ (m i : Nat) (x : AW), (acts 0 tr)[m]? = some (i, x) → (listed[i]? = some true ↔ m < k)
  heap : HRel B0 w0 ψ (hAt h0 (acts 0 tr) k) w
  glob : Glob P ψ
  n : a.tmps.size = F0.n
  vals : ∀ (j : Nat) (s : St), tr[j]? = some s → listed[j]? = some true → ∀ t : Nat, s.o.dst = some t → VRel ψ s.v (a.eval (.tmp t))
  rest : ∀ t : Nat, (∀ (j : Nat) (s : St), tr[j]? = some s → listed[j]? = some true → s.o.dst ≠ some t) → VRel ψ (F0.ev (.tmp t)) (a.eval (.tmp t))

theorem eval_put {a : Act} {d : Option Tmp} {v : Value} (hd : ∀ x : Nat, d = some x → x < a.tmps.size) (t : Nat) : (a.put d v).eval (.tmp t) = if d = some t then v else a.eval (.tmp t) := by
  cases d with
  | none => simp [Act.put]
  | some d =>
    have hlt := hd d rfl
    by_cases htd : d = t
    · subst htd
      rw [if_pos rfl]
      simp only [Act.put, Act.eval]
      rw [Array.getD_eq_getD_getElem?, Array.getElem?_setIfInBounds_self, if_pos hlt]
      rfl
    · rw [if_neg (fun e => htd (Option.some.inj e))]
      simp only [Act.put, Act.eval]
      rw [Array.getD_eq_getD_getElem?, Array.getElem?_setIfInBounds_ne htd, ← Array.getD_eq_getD_getElem?]

theorem lst_set {listed : Array Bool} {j : Nat} (hj : j < listed.size) (i : Nat) : (listed.setIfInBounds j true)[i]? = some true ↔ i = j ∨ listed[i]? = some true := by
  by_cases h : i = j
  · subst h; simp [hj]
  · rw [Array.getElem?_setIfInBounds_ne (Ne.symm h)]; simp [h]

theorem bef_listed {ops : List Oper} (S : Static ops) {listed : Array Bool} (hdown : ∀ (j : Nat) (oj : Oper), ops[j]? = some oj → listed[j]? = some true → ∀ e, e ∈ oj.after.toList → Region.binds .any e = true → listed[e.on]? = some true) :
    ∀ (n j : Nat), j < n → ∀ oj, ops[j]? = some oj → (∀ e, e ∈ oj.after.toList → Region.binds .any e = true → listed[e.on]? = some true) → ∀ i, bef (masks ops []) i j = true → listed[i]? = some true := by
  intro n
  induction n with
  | zero => intro j hj; omega
  | succ n ih =>
    intro j hj oj hoj he i hb
    obtain ⟨e, hm, hbi, hc⟩ := S.mask j oj i hoj hb
    rcases hc with rfl | hc
    · exact he e hm hbi
    · have hlt := S.edge j oj hoj e hm hbi
      have hlen : j < ops.length := by
        rcases Nat.lt_or_ge j ops.length with hx | hx
        · exact hx
        · rw [List.getElem?_eq_none hx] at hoj; cases hoj
      obtain ⟨oe, hoe⟩ : ∃ oe, ops[e.on]? = some oe := ⟨_, List.getElem?_eq_getElem (by omega)⟩
      exact ih e.on (by omega) oe hoe (hdown e.on oe hoe (he e hm hbi)) i hc

/-- What is known of the trace of a region. -/
structure Trace (P : Program) (call : FuncId → List Value → AW → Option (Value × AW)) (ops : Array Oper) (tr : List St) (F0 F' : Fr) (h0 h' : AW) : Prop where
  len : tr.length = ops.toList.length
  at_ : ∀ (j : Nat) (s : St), tr[j]? = some s → ops.toList[j]? = some s.o ∧ StSpec P call ops.toList s ∧ s.F.n = F0.n
  n : F'.n = F0.n
  fr : ∀ (j : Nat) (s : St), tr[j]? = some s → ∀ t : Nat, (∃ (i : Nat) (s' : St), i < j ∧ tr[i]? = some s' ∧ s'.o.dst = some t ∧ s.F.ev (.tmp t) = s'.v) ∨ ((∀ (i : Nat) (s' : St), i < j → tr[i]? = some s' → s'.o.dst ≠ some t) ∧ s.F.ev (.tmp t) = F0.ev (.tmp t))
  fin : ∀ t : Nat, (∃ (i : Nat) (s' : St), tr[i]? = some s' ∧ s'.o.dst = some t ∧ F'.ev (.tmp t) = s'.v) ∨ ((∀ (i : Nat) (s' : St), tr[i]? = some s' → s'.o.dst ≠ some t) ∧ F'.ev (.tmp t) = F0.ev (.tmp t))
  hp : ∀ (j : Nat) (s : St), tr[j]? = some s → s.h = hAt h0 (acts 0 tr) (acts 0 (tr.take j)).length ∧ (∀ h2, s.act = some h2 → (acts 0 tr)[(acts 0 (tr.take j)).length]? = some (j, h2))
  last : h' = hAt h0 (acts 0 tr) (acts 0 tr).length

theorem trace_of {call : FuncId → List Value → AW → Option (Value × AW)} {ops : Array Oper} {F F' : Fr} {tr : List St} (ht : traceOps P call ops.toList ops.toList F h = some (tr, F', h')) : Trace P call ops tr F F' h h' := by
  obtain ⟨q1, q2, q3, q4, q5, q6, q7⟩ := trace_spec ops.toList F h tr F' h' ht
  refine ⟨q1, q2, q3, fun j s hj t => ?_, fun t => ?_, fun j s hj => ?_, q7 0⟩
  · rcases q4 j s hj t with ⟨i, s', a, b, c, d, _⟩ | b
    · exact .inl ⟨i, s', a, b, c, d⟩
    · exact .inr b
  · rcases q5 t with ⟨i, s', b, c, d, _⟩ | b
    · exact .inl ⟨i, s', b, c, d⟩
    · exact .inr b
  · have := q6 j s hj 0
    exact ⟨this.1, fun h2 e => by have := this.2 h2 e; rwa [Nat.zero_add] at this⟩

variable {call : FuncId → List Value → AW → Option (Value × AW)} {ops : Array Oper} {tr : List St} {F0 F' : Fr}

theorem Inv.step {B1 : Zn} {w1 : World} {listed : Array Bool} {k : Nat} {a : Act} (S : Static ops.toList) (T : Trace P call ops tr F0 F' h0 h') (I : Inv P B1 w1 ops tr h0 F0 ψ listed k a w) {j : Nat} {s : St} (hj : tr[j]? = some s)
    (hre : ∀ e, e ∈ s.o.after.toList → Region.binds .any e = true → listed[e.on]? = some true) (hnl : listed[j]? = some false) {ψ' : Map} (hle : ψ.le ψ') {v' : Value} (hv : VRel ψ' s.v v') {k' : Nat}
    (hk : (s.act = none ∧ k' = k) ∨ (∃ x, (acts 0 tr)[k]? = some (j, x) ∧ k' = k + 1)) {w' : World} (H' : HRel B0 w0 ψ' (hAt h0 (acts 0 tr) k') w') :
    Inv P B0 w0 ops tr h0 F0 ψ' (listed.setIfInBounds j true) k' (a.put s.o.dst v') w' := by
  obtain ⟨hoj, hspec, hsn⟩ := T.at_ j s hj
  have hjs : j < listed.size := by
    rcases Nat.lt_or_ge j listed.size with hx | hx
    · exact hx
    · rw [Array.getElem?_eq_none hx] at hnl; cases hnl
  have hroom : ∀ x : Nat, s.o.dst = some x → x < a.tmps.size := fun x hx => by have := hspec.room x hx; rw [hsn] at this; rw [I.n]; exact this
  refine ⟨by simpa using I.size, ?_, ?_, ?_, H', I.glob.mono hle, ?_, ?_, ?_⟩
  · intro i oi hi hl e he hb
    rw [lst_set hjs] at hl ⊢
    rcases hl with rfl | hl
    · rw [hoj] at hi; cases hi
      exact .inr (hre e he hb)
    · exact .inr (I.down i oi hi hl e he hb)
  · rcases hk with ⟨_, rfl⟩ | ⟨x, hx, rfl⟩
    · exact I.kle
    · rcases Nat.lt_or_ge k (acts 0 tr).length with hy | hy
      · exact hy
      · rw [List.getElem?_eq_none hy] at hx; cases hx
  · intro m i x hm
    rw [lst_set hjs]
    have hI := I.kth m i x hm
    rcases hk with ⟨hn, rfl⟩ | ⟨y, hy, rfl⟩
    · have hne : i ≠ j := by
        rintro rfl
        obtain ⟨_, ⟨s', a1, a2⟩, _⟩ := acts_at tr 0 m i x hm
        rw [Nat.sub_zero, hj] at a1
        cases a1
        rw [hn] at a2; cases a2
      simp only [hne, false_or]
      exact hI
    · by_cases hij : i = j
      · subst hij
        have e1 := (acts_at tr 0 m i x hm).2.2
        have e2 := (acts_at tr 0 k i y hy).2.2
        have : m = k := e1.trans e2.symm
        subst this
        simp
      · simp only [hij, false_or, hI]
        constructor
        · intro hx; omega
        · intro hx
          rcases Nat.lt_or_ge m k with hz | hz
          · exact hz
          · have : m = k := by omega
            subst this
            rw [hm] at hy; cases hy; exact absurd rfl hij
  · have : (a.put s.o.dst v').tmps.size = a.tmps.size := by cases s.o.dst <;> simp [Act.put]
    rw [this]; exact I.n
  · intro i si hi hl t ht
    rw [eval_put hroom]
    rw [lst_set hjs] at hl
    by_cases hij : i = j
    · subst hij
      rw [hj] at hi; cases hi
      rw [if_pos ht]; exact hv
    · have hl' : listed[i]? = some true := by simpa [hij] using hl
      have hne := (S.pair i j si.o s.o (T.at_ i si hi).1 hoj hij t ht).1
      rw [if_neg hne]
      exact (I.vals i si hi hl' t ht).mono hle
  · intro t ht
    rw [eval_put hroom]
    have hnj : s.o.dst ≠ some t := ht j s hj (by rw [lst_set hjs]; exact .inl rfl)
    rw [if_neg hnj]
    exact (I.rest t fun i si hi hl => ht i si hi (by rw [lst_set hjs]; exact .inr hl)).mono hle

/-- What an operation that may come next looks at is what the text's own order shows it. -/
theorem Inv.reads {listed : Array Bool} {k : Nat} {a : Act} (S : Static ops.toList) (T : Trace P call ops tr F0 F' h0 h') (I : Inv P B0 w0 ops tr h0 F0 ψ listed k a w) {j : Nat} {s : St} (hj : tr[j]? = some s)
    (hre : ∀ e, e ∈ s.o.after.toList → Region.binds .any e = true → listed[e.on]? = some true) (hnl : listed[j]? = some false) :
    ∀ t, t ∈ readsOf ops.toList s.o → VRel ψ (s.F.ev (.tmp t)) (a.eval (.tmp t)) := by
  intro t ht
  obtain ⟨hoj, hspec, hsn⟩ := T.at_ j s hj
  rcases T.fr j s hj t with ⟨i, si, a1, a2, a3, a4⟩ | ⟨b1, b2⟩
  · have hb := ((S.pair i j si.o s.o (T.at_ i si a2).1 hoj (by omega) t a3).2 ht).1 a1
    have hl := bef_listed S I.down (j + 1) j (by omega) s.o hoj hre i hb
    rw [a4]
    exact I.vals i si a2 hl t a3
  · rw [b2]
    refine I.rest t fun i si hi hl hd => ?_
    rcases Nat.lt_or_ge i j with hlt | hge
    · exact b1 i si hlt hi hd
    · have hne : i ≠ j := by rintro rfl; rw [hnl] at hl; cases hl
      have hb := ((S.pair i j si.o s.o (T.at_ i si hi).1 hoj hne t hd).2 ht).2 (by omega)
      have := bef_listed S I.down (i + 1) i (by omega) si.o (T.at_ i si hi).1 (I.down i si.o (T.at_ i si hi).1 hl) j hb
      rw [hnl] at this; cases this

theorem ready_spec {listed : Array Bool} (hsz : listed.size = ops.size) {i : Nat} (hi : i ∈ Region.ready .any ops listed) :
    listed[i]? = some false ∧ ∃ o, ops[i]? = some o ∧ ∀ e, e ∈ o.after.toList → Region.binds .any e = true → listed[e.on]? = some true := by
  unfold Region.ready at hi
  simp only [List.mem_filter, List.mem_range, Bool.and_eq_true, Bool.not_eq_true'] at hi
  obtain ⟨h1, h2, h3⟩ := hi
  rw [Array.getD_eq_getD_getElem?, Array.getElem?_eq_getElem (by omega)] at h2
  refine ⟨by rw [Array.getElem?_eq_getElem (by omega)]; exact congrArg some h2, ?_⟩
  rw [Array.getElem?_eq_getElem h1] at h3
  simp only [Option.map_some, Option.getD_some] at h3
  refine ⟨ops[i], Array.getElem?_eq_getElem h1, fun e he hb => ?_⟩
  rw [Array.all_eq_true'] at h3
  have := h3 e (by simpa using he)
  rw [hb] at this
  simp only [Bool.not_true, Bool.false_or] at this
  rw [Array.getD_eq_getD_getElem?] at this
  cases hx : listed[e.on]? with
  | none => rw [hx] at this; cases this
  | some b => rw [hx] at this; simp only [Option.getD_some] at this; rw [this]

theorem all_listed {listed : Array Bool} (hsz : listed.size = ops.size) (S : Static ops.toList) (hr : Region.ready .any ops listed = []) : ∀ (n i : Nat), i < n → i < ops.size → listed[i]? = some true := by
  intro n
  induction n with
  | zero => intro i hi; omega
  | succ n ih =>
    intro i hi hlt
    cases hl : listed[i]? with
    | none => rw [Array.getElem?_eq_getElem (by omega)] at hl; cases hl
    | some b =>
      cases b with
      | true => rfl
      | false =>
        exfalso
        have hmem : i ∈ Region.ready .any ops listed := by
          unfold Region.ready
          simp only [List.mem_filter, List.mem_range, Bool.and_eq_true, Bool.not_eq_true']
          refine ⟨hlt, ?_, ?_⟩
          · rw [Array.getD_eq_getD_getElem?, hl]; rfl
          · rw [Array.getElem?_eq_getElem hlt]
            simp only [Option.map_some, Option.getD_some]
            rw [Array.all_eq_true']
            intro e he
            cases hb : Region.binds .any e with
            | false => rfl
            | true =>
              have hlt' := S.edge i ops[i] (by rw [Array.getElem?_toList]; exact Array.getElem?_eq_getElem hlt) e (by simpa using he) hb
              rw [Array.getD_eq_getD_getElem?, ih e.on (by omega) (by omega)]; rfl
        rw [hr] at hmem; cases hmem

theorem drawn_any (hcall : CallOk P B0 w0 call) (hok : opersOk P.globals.size ops.toList = true) (S : Static ops.toList) (T : Trace P call ops tr F0 F' h0 h') (hch : chainOk (masks ops.toList []) (acts 0 tr) = true) (hst : stsOk P (masks ops.toList []) h0 (acts 0 tr) 0 0 tr = true) {Q : Exit → Act → World → Prop} {φ : Map} {a0 : Act}
    (hQ : ∀ ψ a' w', φ.le ψ → FRel ψ F' a' → HRel B0 w0 ψ h' w' → a'.defers = a0.defers → Q .normal a' w') :
    ∀ (fuel : Nat) (listed : Array Bool) (k : Nat) (ψ : Map) (a : Act) (w : World), Inv P B0 w0 ops tr h0 F0 ψ listed k a w → unl listed ≤ fuel → φ.le ψ → a.defers = a0.defers → wpAny P .any ops Q fuel listed a w := by
  have hdef : ∀ (a : Act) d v, (a.put d v).defers = a.defers := fun a d v => by cases d <;> rfl
  have fin : ∀ (listed : Array Bool) (k : Nat) (ψ : Map) (a : Act) (w : World), Inv P B0 w0 ops tr h0 F0 ψ listed k a w → φ.le ψ → a.defers = a0.defers → Region.ready .any ops listed = [] → Q .normal a w := by
    intro listed k ψ a w I hle hd hr
    have hall : ∀ i, i < ops.size → listed[i]? = some true := fun i hi => all_listed I.size S hr (i + 1) i (by omega) hi
    have hlt : ∀ (i : Nat) (s : St), tr[i]? = some s → i < ops.size := fun i s hi => by
      have : i < tr.length := by
        rcases Nat.lt_or_ge i tr.length with hx | hx
        · exact hx
        · rw [List.getElem?_eq_none hx] at hi; cases hi
      rw [T.len] at this; simpa using this
    refine hQ ψ a w hle ⟨by rw [I.n, T.n], fun t => ?_⟩ ?_ hd
    · rcases T.fin t with ⟨i, si, a1, a2, a3⟩ | ⟨b1, b2⟩
      · rw [a3]; exact I.vals i si a1 (hall i (hlt i si a1)) t a2
      · rw [b2]; exact I.rest t fun i si hi _ => b1 i si hi
    · have hk : k = (acts 0 tr).length := by
        rcases Nat.lt_or_ge k (acts 0 tr).length with hx | hx
        · obtain ⟨⟨i, x⟩, hix⟩ : ∃ p, (acts 0 tr)[k]? = some p := ⟨_, List.getElem?_eq_getElem hx⟩
          obtain ⟨_, ⟨s, a1, _⟩, _⟩ := acts_at tr 0 k i x hix
          have := (I.kth k i x hix).1 (hall i (hlt i s (by simpa using a1)))
          omega
        · exact Nat.le_antisymm I.kle hx
      rw [T.last, ← hk]
      exact I.heap
  intro fuel
  induction fuel with
  | zero =>
    intro listed k ψ a w I hu hle hd
    have hr : Region.ready .any ops listed = [] := by
      cases hx : Region.ready .any ops listed with
      | nil => rfl
      | cons i l =>
        have := (ready_spec I.size (i := i) (by rw [hx]; simp)).1
        have := unl_set this
        omega
    exact ⟨hr, fin listed k ψ a w I hle hd hr⟩
  | succ fuel ih =>
    intro listed k ψ a w I hu hle hd
    refine ⟨fin listed k ψ a w I hle hd, fun j hj => ?_⟩
    obtain ⟨hnl, o, ho, hre⟩ := ready_spec I.size hj
    have huu := unl_set hnl
    have hol : ops.toList[j]? = some o := by simpa using ho
    obtain ⟨s, hs⟩ : ∃ s, tr[j]? = some s := by
      have : j < tr.length := by
        rw [T.len]
        rcases Nat.lt_or_ge j ops.toList.length with hx | hx
        · exact hx
        · rw [List.getElem?_eq_none hx] at hol; cases hol
      exact ⟨_, List.getElem?_eq_getElem this⟩
    obtain ⟨hoj, hspec, hsn⟩ := T.at_ j s hs
    rw [hol] at hoj
    obtain rfl := Option.some.inj hoj
    have hreads := I.reads S T hs hre hnl
    have hmem : s.o ∈ ops.toList := List.mem_of_getElem? hol
    have hops := opersOk_spec hok s.o hmem
    have hrev : Rev ψ s.F a.eval s.o.op.operands.toList := rev_of hops I.glob fun t ht => hreads t (List.mem_append_left _ ht)
    have hwant := guard_ok' (ops := ops) (o := s.o) (a := a) (fun g want og d h1 h2 h3 => hreads d (by
      unfold readsOf
      refine List.mem_append_right _ ?_
      rw [h1]
      simp only [h2, h3, List.mem_singleton])) hspec.guard
    have next : ∀ (ψ' : Map) (v' : Value) (w' : World) (k' : Nat), ψ.le ψ' → VRel ψ' s.v v' → ((s.act = none ∧ k' = k) ∨ (∃ x, (acts 0 tr)[k]? = some (j, x) ∧ k' = k + 1)) → HRel B0 w0 ψ' (hAt h0 (acts 0 tr) k') w' →
        wpAny P .any ops Q fuel (listed.setIfInBounds j true) (a.put s.o.dst v') w' := fun ψ' v' w' k' hle' hv hk H' =>
      ih _ k' ψ' _ w' (I.step S T hs hre hnl hle' hv hk H') (by omega) (Map.le_trans hle hle') ((hdef _ _ _).trans hd)
    unfold wpOp
    rw [ho]
    simp only
    rw [hwant]
    cases hw : s.want with
    | false =>
      rw [if_neg (by simp)]
      obtain ⟨e1, e2⟩ := hspec.off hw
      exact next ψ undef w k ψ.le_refl (by rw [e2]; exact VRel.undef) (.inl ⟨e1, rfl⟩) I.heap
    | true =>
      rw [if_pos rfl]
      refine .inl ?_
      have hbl : ∀ i, bef (masks ops.toList []) i j = true → listed[i]? = some true := fun i hb => bef_listed S I.down (j + 1) j (by omega) s.o hol hre i hb
      cases ha : s.act with
      | none =>
        have hq := hspec.quiet hw ha
        have same : ∃ v, opQ P s.F (hAt h0 (acts 0 tr) k) s.o.op = some v ∧ v = s.v := by
          cases hlk : looks s.o.op with
          | false => exact ⟨s.v, by rw [opQ_still hlk]; exact hq, rfl⟩
          | true =>
            have hst' := sts_spec hst j s hs
            rw [Nat.zero_add, Nat.zero_add] at hst'
            unfold stOk at hst'
            rw [ha, hw, hlk] at hst'
            simp only [Bool.not_true, Bool.false_or] at hst'
            have hchk := chk_spec (acts 0 tr) 0 h0 k hst' I.kle
              (fun m p hm hp => by
                cases hb : bef (masks ops.toList []) j p.1 with
                | false => rfl
                | true =>
                  obtain ⟨i, x⟩ := p
                  have hl := (I.kth m i x hp).2 hm
                  obtain ⟨_, ⟨si, a1, _⟩, _⟩ := acts_at tr 0 m i x hp
                  rw [Nat.sub_zero] at a1
                  have hoi := (T.at_ i si a1).1
                  have := bef_listed S I.down (i + 1) i (by omega) si.o hoi (I.down i si.o hoi hl) j hb
                  rw [hnl] at this; cases this)
              (fun m p hm hp => by
                cases hb : bef (masks ops.toList []) p.1 j with
                | false => rfl
                | true =>
                  obtain ⟨i, x⟩ := p
                  have := (I.kth m i x hp).1 (hbl i hb)
                  omega)
            rcases hchk with e | e
            · have := (T.hp j s hs).1
              rw [Nat.zero_add] at e
              rw [e, ← this]
              exact ⟨s.v, hq, rfl⟩
            · split at e
              · rename_i v hv
                exact ⟨v, hv, beqV_ok _ _ _ e⟩
              · cases e
        obtain ⟨v, hv, rfl⟩ := same
        obtain ⟨v', hrun, hvr⟩ := opQ_ok (P := P) I.heap hrev hv
        unfold Oper.wp
        rw [hrun, Oper.upon_value]
        exact next ψ v' w k ψ.le_refl hvr (.inl ⟨ha, rfl⟩) I.heap
      | some h2 =>
        obtain ⟨_, hact⟩ := hspec.turn h2 ha
        obtain ⟨hsh, hm⟩ := T.hp j s hs
        have hm := hm h2 ha
        generalize (acts 0 (tr.take j)).length = m at hsh hm
        have hmk : m = k := by
          have hnot : ¬ m < k := fun hlt => by
            have := (I.kth m j h2 hm).2 hlt
            rw [hnl] at this; cases this
          rcases Nat.lt_or_ge k m with hlt | hge
          · exfalso
            obtain ⟨m', rfl⟩ : ∃ m', m = m' + 1 := ⟨m - 1, by omega⟩
            obtain ⟨⟨i, x⟩, hix⟩ : ∃ p, (acts 0 tr)[m']? = some p := by
              have : m' < (acts 0 tr).length := by
                rcases Nat.lt_or_ge m' (acts 0 tr).length with hx | hx
                · exact hx
                · rw [List.getElem?_eq_none (by omega)] at hm; cases hm
              exact ⟨_, List.getElem?_eq_getElem this⟩
            have := (I.kth m' i x hix).1 (hbl i (chain_spec hch m' (i, x) (j, h2) hix hm))
            omega
          · omega
        subst hmk
        rw [hsh] at hact
        refine act_ok hcall hrev I.heap I.glob hact _ Q fun ψ' v' w' hle' hv H' => ?_
        refine next ψ' v' w' (m + 1) hle' hv (.inr ⟨h2, hm, rfl⟩) ?_
        rw [hAt_succ _ _ _ _ hm]
        exact H'

/-- One operation that may come next. -/
theorem exec_one (hcall : CallOk P B0 w0 call) (hok : opersOk P.globals.size ops.toList = true) (S : Static ops.toList) (T : Trace P call ops tr F0 F' h0 h') (hst : stsOk P (masks ops.toList []) h0 (acts 0 tr) 0 0 tr = true)
    {listed : Array Bool} {k : Nat} {a0 a : Act} (I : Inv P B0 w0 ops tr h0 F0 ψ listed k a0 w) {j : Nat} {s : St} (hs : tr[j]? = some s) (hre : ∀ e, e ∈ s.o.after.toList → Region.binds .any e = true → listed[e.on]? = some true) (hnl : listed[j]? = some false)
    (hea : ∀ t, t ∈ readsOf ops.toList s.o → a.eval (.tmp t) = a0.eval (.tmp t)) (hact : ∀ h2, s.act = some h2 → ∃ x, (acts 0 tr)[k]? = some (j, x)) {K : Act → World → Prop} {Q : Exit → Act → World → Prop}
    (next : ∀ ψ' v' w' k', ψ.le ψ' → VRel ψ' s.v v' → ((s.act = none ∧ k' = k) ∨ (∃ x, (acts 0 tr)[k]? = some (j, x) ∧ k' = k + 1)) → HRel B0 w0 ψ' (hAt h0 (acts 0 tr) k') w' → K (a.put s.o.dst v') w') : wpOp P ops Q j K a w := by
  obtain ⟨hol, hspec, hsn⟩ := T.at_ j s hs
  have ho : ops[j]? = some s.o := by simpa using hol
  have hreads0 := I.reads S T hs hre hnl
  have hreads : ∀ t, t ∈ readsOf ops.toList s.o → VRel ψ (s.F.ev (.tmp t)) (a.eval (.tmp t)) := fun t ht => by rw [hea t ht]; exact hreads0 t ht
  have hmem : s.o ∈ ops.toList := List.mem_of_getElem? hol
  have hops := opersOk_spec hok s.o hmem
  have hrev : Rev ψ s.F a.eval s.o.op.operands.toList := rev_of hops I.glob fun t ht => hreads t (List.mem_append_left _ ht)
  have hwant := guard_ok' (ops := ops) (o := s.o) (a := a) (fun g want og d h1 h2 h3 => hreads d (by
    unfold readsOf
    refine List.mem_append_right _ ?_
    rw [h1]
    simp only [h2, h3, List.mem_singleton])) hspec.guard
  unfold wpOp
  rw [ho]
  simp only
  rw [hwant]
  cases hw : s.want with
  | false =>
    rw [if_neg (by simp)]
    obtain ⟨e1, e2⟩ := hspec.off hw
    exact next ψ undef w k ψ.le_refl (by rw [e2]; exact VRel.undef) (.inl ⟨e1, rfl⟩) I.heap
  | true =>
    rw [if_pos rfl]
    refine .inl ?_
    have hbl : ∀ i, bef (masks ops.toList []) i j = true → listed[i]? = some true := fun i hb => bef_listed S I.down (j + 1) j (by omega) s.o hol hre i hb
    cases ha : s.act with
    | none =>
      have hq := hspec.quiet hw ha
      have same : ∃ v, opQ P s.F (hAt h0 (acts 0 tr) k) s.o.op = some v ∧ v = s.v := by
        cases hlk : looks s.o.op with
        | false => exact ⟨s.v, by rw [opQ_still hlk]; exact hq, rfl⟩
        | true =>
          have hst' := sts_spec hst j s hs
          rw [Nat.zero_add, Nat.zero_add] at hst'
          unfold stOk at hst'
          rw [ha, hw, hlk] at hst'
          simp only [Bool.not_true, Bool.false_or] at hst'
          have hchk := chk_spec (acts 0 tr) 0 h0 k hst' I.kle
            (fun m p hm hp => by
              cases hb : bef (masks ops.toList []) j p.1 with
              | false => rfl
              | true =>
                obtain ⟨i, x⟩ := p
                have hl := (I.kth m i x hp).2 hm
                obtain ⟨_, ⟨si, a1, _⟩, _⟩ := acts_at tr 0 m i x hp
                rw [Nat.sub_zero] at a1
                have hoi := (T.at_ i si a1).1
                have := bef_listed S I.down (i + 1) i (by omega) si.o hoi (I.down i si.o hoi hl) j hb
                rw [hnl] at this; cases this)
            (fun m p hm hp => by
              cases hb : bef (masks ops.toList []) p.1 j with
              | false => rfl
              | true =>
                obtain ⟨i, x⟩ := p
                have := (I.kth m i x hp).1 (hbl i hb)
                omega)
          rcases hchk with e | e
          · have := (T.hp j s hs).1
            rw [Nat.zero_add] at e
            rw [e, ← this]
            exact ⟨s.v, hq, rfl⟩
          · split at e
            · rename_i v hv
              exact ⟨v, hv, beqV_ok _ _ _ e⟩
            · cases e
      obtain ⟨v, hv, hvs⟩ := same
      obtain ⟨v', hrun, hvr⟩ := opQ_ok (P := P) I.heap hrev hv
      unfold Oper.wp
      rw [hrun, Oper.upon_value]
      exact next ψ v' w k ψ.le_refl (by rw [← hvs]; exact hvr) (.inl ⟨ha, rfl⟩) I.heap
    | some h2 =>
      obtain ⟨_, hact2⟩ := hspec.turn h2 ha
      obtain ⟨hsh, hm⟩ := T.hp j s hs
      have hm := hm h2 ha
      generalize (acts 0 (tr.take j)).length = m at hsh hm
      obtain ⟨x, hx⟩ := hact h2 ha
      have hmk : m = k := (acts_at tr 0 m j h2 hm).2.2.trans (acts_at tr 0 k j x hx).2.2.symm
      subst hmk
      rw [hsh] at hact2
      refine act_ok hcall hrev I.heap I.glob hact2 _ Q fun ψ' v' w' hle' hv H' => ?_
      refine next ψ' v' w' (m + 1) hle' hv (.inr ⟨h2, hm, rfl⟩) ?_
      rw [hAt_succ _ _ _ _ hm]
      exact H'

theorem befAll_spec {M : List Nat} {j : Nat} : ∀ {l : List Nat}, befAll M l j = true → ∀ i, i ∈ l → bef M i j = true
  | x :: l, h, i, hi => by
    simp only [befAll, Bool.and_eq_true] at h
    rcases List.mem_cons.1 hi with rfl | hm
    · exact h.1
    · exact befAll_spec h.2 i hm
theorem pairsBut_spec {M : List Nat} {z : Nat} : ∀ {As : List (Nat × AW)} {pre : List Nat}, pairsBut M z pre As = true → (∀ (m : Nat) (p : Nat × AW), As[m]? = some p → p.1 ≠ z → ∀ i, i ∈ pre → bef M i p.1 = true) ∧
    ∀ (m1 m2 : Nat) (p1 p2 : Nat × AW), m1 < m2 → As[m1]? = some p1 → As[m2]? = some p2 → p2.1 ≠ z → bef M p1.1 p2.1 = true
  | [], pre, h => ⟨fun m p hp => by simp at hp, fun m1 m2 p1 p2 _ h1 => by simp at h1⟩
  | (j, x) :: l, pre, h => by
    simp only [pairsBut, Bool.and_eq_true, Bool.or_eq_true] at h
    obtain ⟨a, b⟩ := pairsBut_spec h.2
    refine ⟨fun m p hp hz i hi => ?_, fun m1 m2 p1 p2 hlt h1 h2 hz => ?_⟩
    · cases m with
      | zero =>
        simp at hp; subst hp
        rcases h.1 with e | e
        · exact absurd (beq_true e) hz
        · exact befAll_spec e i hi
      | succ m => exact a m p (by simpa using hp) hz i (List.mem_cons_of_mem _ hi)
    · cases m2 with
      | zero => omega
      | succ m2 =>
        have h2 : l[m2]? = some p2 := by simpa using h2
        cases m1 with
        | zero =>
          simp at h1; subst h1
          exact a m2 p2 h2 hz j (by simp)
        | succ m1 => exact b m1 m2 p1 p2 (by omega) (by simpa using h1) h2 hz
theorem preOf_spec {z : Nat} : ∀ {As : List (Nat × AW)} {m m' : Nat} {p : Nat × AW}, m' < m → As[m']? = some p → (∀ (q : Nat) (r : Nat × AW), q < m → As[q]? = some r → r.1 ≠ z) → p.1 ∈ preOf z As
  | [], m, m', p, _, h, _ => by simp at h
  | (i, x) :: l, m, m', p, hlt, h, hn => by
    have h0 : i ≠ z := hn 0 (i, x) (by omega) rfl
    have hb : Nat.beq i z = false := by
      cases hb : Nat.beq i z with
      | false => rfl
      | true => exact absurd (beq_true hb) h0
    simp only [preOf, hb]
    cases m' with
    | zero => simp at h; subst h; exact List.mem_cons_self ..
    | succ m' =>
      refine List.mem_cons_of_mem _ (preOf_spec (m := m - 1) (m' := m') (by omega) (by simpa using h) fun q r hq hr => hn (q + 1) r (by omega) (by simpa using hr))
theorem edgeTo_spec {z : Nat} : ∀ {l : List Edge} {e : Edge}, e ∈ l → e.on = z → edgeTo z l = true
  | x :: l, e, h, hz => by
    simp only [edgeTo, Bool.or_eq_true]
    rcases List.mem_cons.1 h with rfl | hm
    · left; rw [hz]; exact Nat.beq_refl z
    · exact .inr (edgeTo_spec hm hz)
theorem depsOk_spec {M : List Nat} {z : Nat} {pre : List Nat} : ∀ {l : List Oper} {k : Nat}, depsOk M z pre k l = true → ∀ (j : Nat) (o : Oper), l[j]? = some o → (bef M z (k + j) = true ∨ ∃ e, e ∈ o.after.toList ∧ e.on = z) → ∀ i, i ∈ pre → bef M i (k + j) = true
  | [], k, h, j, o, hj => by simp at hj
  | x :: l, k, h, j, o, hj => by
    simp only [depsOk, Bool.and_eq_true] at h
    cases j with
    | zero =>
      simp at hj; subst hj
      intro hd i hi
      have h1 := h.1
      have : (bef M z k || edgeTo z x.after.toList) = true := by
        rw [Bool.or_eq_true]
        rcases hd with e | ⟨e, a, b⟩
        · exact .inl e
        · exact .inr (edgeTo_spec a b)
      rw [this] at h1
      exact befAll_spec (by simpa using h1) i hi
    | succ j =>
      simp at hj
      have := depsOk_spec h.2 j o hj
      rwa [show k + 1 + j = k + (j + 1) from by omega] at this

/-- What is known of the one operation that may come early. -/
structure Free (ops : Array Oper) (tr : List St) (z m : Nat) (sz : St) (dz : Nat) (x : AW) : Prop where
  at_ : tr[z]? = some sz
  ix : (acts 0 tr)[m]? = some (z, x)
  dst : sz.o.dst = some dz
  new : (∃ t, sz.o.op = .alloc t) ∨ ∃ t len parts, sz.o.op = .buildSlice t len parts
  pairs : ∀ (m1 m2 : Nat) (p1 p2 : Nat × AW), m1 < m2 → (acts 0 tr)[m1]? = some p1 → (acts 0 tr)[m2]? = some p2 → p2.1 ≠ z → bef (masks ops.toList []) p1.1 p2.1 = true
  deps : ∀ (j : Nat) (o : Oper), ops.toList[j]? = some o → (bef (masks ops.toList []) z j = true ∨ ∃ e, e ∈ o.after.toList ∧ e.on = z) → ∀ (m1 : Nat) (p : Nat × AW), m1 < m → (acts 0 tr)[m1]? = some p → bef (masks ops.toList []) p.1 j = true
theorem free_of (T : Trace P call ops tr F0 F' h0 h') : ∀ {l : List (Nat × AW)}, (∀ p, p ∈ l → p ∈ acts 0 tr) → freeAny ops.toList (masks ops.toList []) (acts 0 tr) l = true → ∃ z m sz dz x, Free ops tr z m sz dz x
  | [], _, h => by simp [freeAny] at h
  | (z, x) :: l, hm, h => by
    simp only [freeAny, Bool.or_eq_true] at h
    rcases h with h | h
    · obtain ⟨m, hmm⟩ := List.mem_iff_getElem?.1 (hm (z, x) (by simp))
      obtain ⟨_, ⟨sz, h1, h2⟩, _⟩ := acts_at tr 0 m z x hmm
      rw [Nat.sub_zero] at h1
      have hoz := (T.at_ z sz h1).1
      unfold freeOne at h
      simp only [Bool.and_eq_true] at h
      obtain ⟨⟨e1, e2⟩, e3⟩ := h
      have hn : (∃ dz, sz.o.dst = some dz) ∧ ((∃ t, sz.o.op = .alloc t) ∨ ∃ t len parts, sz.o.op = .buildSlice t len parts) := by
        unfold isNew at e1
        rw [hoz] at e1
        simp only at e1
        split at e1
        · rename_i t ht; exact ⟨Option.isSome_iff_exists.1 e1, .inl ⟨t, ht⟩⟩
        · rename_i t len parts ht; exact ⟨Option.isSome_iff_exists.1 e1, .inr ⟨t, len, parts, ht⟩⟩
        · cases e1
      obtain ⟨⟨dz, hd⟩, hnew⟩ := hn
      refine ⟨z, m, sz, dz, x, h1, hmm, hd, hnew, (pairsBut_spec e2).2, fun j o hj hd m1 p hlt hp => ?_⟩
      have := depsOk_spec (k := 0) e3 j o hj (by rwa [Nat.zero_add]) p.1 (preOf_spec hlt hp fun q r hq hr e => ?_)
      · rwa [Nat.zero_add] at this
      · obtain ⟨i, y⟩ := r
        simp only at e
        subst e
        have := (acts_at tr 0 q i y hr).2.2.trans (acts_at tr 0 m i x hmm).2.2.symm
        omega
    · exact free_of T (fun p hp => hm p (List.mem_cons_of_mem _ hp)) h

/-- A block that nobody knows of. -/
theorem HRel.skip (H : HRel B0 w0 ψ h w) (x : Obj) : HRel ⟨B0.R, fun k => B0.Z k ∨ k = w.heap.size, fun k e => .inl (B0.sub k e)⟩ (w.alloc x) ψ h (w.alloc x) := by
  refine ⟨fun k hk => ?_, BelowZ.refl _ _, H.dom, fun i o y ho hy => ?_, fun i o ho => ?_, H.fam, H.sep, H.ty.same (Cast.alloc _ _) rfl (Nat.le_refl _)⟩
  · rcases hk with hk | rfl
    · have := H.inn k hk; simp; omega
    · simp
  · have := H.lto i o y ho hy; simp; omega
  · obtain ⟨b, σ, κ, hp, hr⟩ := H.obj i o ho
    have hlt := H.lt ho hp
    have hr := hr.same (w' := w.alloc x) (by simp only [World.alloc, Array.getElem?_push]; rw [if_neg (Nat.ne_of_lt hlt)])
    refine ⟨b, σ, κ, hp, ?_⟩
    cases o with
    | var cs n ro =>
      obtain ⟨a1, a2, a3, a4, a5⟩ := hr
      exact ⟨a1, a2, a3, fun e => ⟨fun hz => hz.elim (a4 e).1 (Nat.ne_of_lt hlt), (a4 e).2⟩, a5⟩
    | row f g lo hi sz cs =>
      intro fm h2 h3
      obtain ⟨a1, a2⟩ := hr fm h2 h3
      exact ⟨fun hz => hz.elim a1 (Nat.ne_of_lt hlt), a2⟩
    | map es =>
      obtain ⟨a1, a2, a3, a4⟩ := hr
      exact ⟨a1, a2, fun hz => hz.elim a3 (Nat.ne_of_lt hlt), a4⟩
theorem put_comm {a : Act} {d : Option Tmp} {dz : Tmp} {v vz : Value} (h : d ≠ some dz) : (a.put (some dz) vz).put d v = (a.put d v).put (some dz) vz := by
  cases d with
  | none => rfl
  | some d =>
    have hne : dz ≠ d := fun e => h (by rw [e])
    simp only [Act.put]
    rw [Array.setIfInBounds_comm _ _ hne]

/-- The one operation has come early: its block is there, and nobody knows of it. -/
def Early (P : Program) (B0 : Zn) (w0 : World) (ops : Array Oper) (tr : List St) (h0 : AW) (F0 : Fr) (z m : Nat) (sz : St) (dz : Nat) (ψ : Map) (listed : Array Bool) (k : Nat) (a : Act) (w : World) : Prop :=
  ∃ B1 w1 l0 a0 v', listed = l0.setIfInBounds z true ∧ l0[z]? = some false ∧ a = a0.put (some dz) v' ∧ Inv P B1 w1 ops tr h0 F0 ψ l0 k a0 w ∧ k < m ∧ (∀ e, e ∈ sz.o.after.toList → Region.binds .any e = true → l0[e.on]? = some true) ∧
    ∀ ψ' W, ψ.le ψ' → HRel B1 w1 ψ' (hAt h0 (acts 0 tr) m) W → ∃ ψ'', ψ'.le ψ'' ∧ VRel ψ'' sz.v v' ∧ HRel B0 w0 ψ'' (hAt h0 (acts 0 tr) (m + 1)) W

theorem drawn_free (hcall : ∀ B w, CallOk P B w call) (hok : opersOk P.globals.size ops.toList = true) (S : Static ops.toList) (T : Trace P call ops tr F0 F' h0 h') {z m : Nat} {sz : St} {dz : Nat} {xz : AW} (Z : Free ops tr z m sz dz xz)
    (hst : stsOk P (masks ops.toList []) h0 (acts 0 tr) 0 0 tr = true) {Q : Exit → Act → World → Prop} {φ : Map} {a0 : Act}
    (hQ : ∀ ψ a' w', φ.le ψ → FRel ψ F' a' → HRel B0 w0 ψ h' w' → a'.defers = a0.defers → Q .normal a' w') :
    ∀ (fuel : Nat) (listed : Array Bool) (k : Nat) (ψ : Map) (a : Act) (w : World), Inv P B0 w0 ops tr h0 F0 ψ listed k a w ∨ Early P B0 w0 ops tr h0 F0 z m sz dz ψ listed k a w → unl listed ≤ fuel → φ.le ψ → a.defers = a0.defers → wpAny P .any ops Q fuel listed a w := by
  have hdef : ∀ (a : Act) d v, (a.put d v).defers = a.defers := fun a d v => by cases d <;> rfl
  obtain ⟨hoz, hzspec, hzn⟩ := T.at_ z sz Z.at_
  have hlt : ∀ (i : Nat) (s : St), tr[i]? = some s → i < ops.size := fun i s hi => by
    have : i < tr.length := by
      rcases Nat.lt_or_ge i tr.length with hx | hx
      · exact hx
      · rw [List.getElem?_eq_none hx] at hi; cases hi
    rw [T.len] at this; simpa using this
  have same : ∀ {q i : Nat} {y : AW} {q' : Nat} {y' : AW}, (acts 0 tr)[q]? = some (i, y) → (acts 0 tr)[q']? = some (i, y') → q = q' := fun hq hq' => (acts_at tr 0 _ _ _ hq).2.2.trans (acts_at tr 0 _ _ _ hq').2.2.symm
  have actIn : ∀ {q : Nat}, q < m → ∃ i y, (acts 0 tr)[q]? = some (i, y) ∧ i ≠ z := by
    intro q hq
    have hml : m < (acts 0 tr).length := (List.getElem?_eq_some_iff.1 Z.ix).1
    obtain ⟨⟨i, y⟩, hi⟩ : ∃ p, (acts 0 tr)[q]? = some p := ⟨_, List.getElem?_eq_getElem (by omega)⟩
    refine ⟨i, y, hi, ?_⟩
    rintro rfl
    have := same hi Z.ix
    omega
  have esize : ∀ {listed : Array Bool} {k : Nat} {ψ : Map} {a : Act} {w : World}, Inv P B0 w0 ops tr h0 F0 ψ listed k a w ∨ Early P B0 w0 ops tr h0 F0 z m sz dz ψ listed k a w → listed.size = ops.size := by
    rintro listed k ψ a w (I | ⟨B1, w1, l0, b0, v', rfl, _, _, I, _⟩)
    · exact I.size
    · rw [Array.size_setIfInBounds]; exact I.size
  have fin : ∀ (listed : Array Bool) (k : Nat) (ψ : Map) (a : Act) (w : World), Inv P B0 w0 ops tr h0 F0 ψ listed k a w ∨ Early P B0 w0 ops tr h0 F0 z m sz dz ψ listed k a w → φ.le ψ → a.defers = a0.defers → Region.ready .any ops listed = [] → Q .normal a w := by
    intro listed k ψ a w St hle hd hr
    have hall : ∀ i, i < ops.size → listed[i]? = some true := fun i hi => all_listed (esize St) S hr (i + 1) i (by omega) hi
    rcases St with I | ⟨B1, w1, l0, b0, v', rfl, hzl, rfl, I, hkm, _, _⟩
    · refine hQ ψ a w hle ⟨by rw [I.n, T.n], fun t => ?_⟩ ?_ hd
      · rcases T.fin t with ⟨i, si, a1, a2, a3⟩ | ⟨b1, b2⟩
        · rw [a3]; exact I.vals i si a1 (hall i (hlt i si a1)) t a2
        · rw [b2]; exact I.rest t fun i si hi _ => b1 i si hi
      · have hk : k = (acts 0 tr).length := by
          rcases Nat.lt_or_ge k (acts 0 tr).length with hx | hx
          · obtain ⟨⟨i, x⟩, hix⟩ : ∃ p, (acts 0 tr)[k]? = some p := ⟨_, List.getElem?_eq_getElem hx⟩
            obtain ⟨_, ⟨s, a1, _⟩, _⟩ := acts_at tr 0 k i x hix
            have := (I.kth k i x hix).1 (hall i (hlt i s (by simpa using a1)))
            omega
          · exact Nat.le_antisymm I.kle hx
        rw [T.last, ← hk]
        exact I.heap
    · exfalso
      obtain ⟨i, y, hi, hne⟩ := actIn hkm
      obtain ⟨_, ⟨s, a1, _⟩, _⟩ := acts_at tr 0 k i y hi
      have h1 := hall i (hlt i s (by simpa using a1))
      rw [Array.getElem?_setIfInBounds_ne (Ne.symm hne)] at h1
      have := (I.kth k i y hi).1 h1
      omega
  intro fuel
  induction fuel with
  | zero =>
    intro listed k ψ a w St hu hle hd
    have hr : Region.ready .any ops listed = [] := by
      cases hx : Region.ready .any ops listed with
      | nil => rfl
      | cons i l =>
        have := (ready_spec (esize St) (i := i) (by rw [hx]; simp)).1
        have := unl_set this
        omega
    exact ⟨hr, fin listed k ψ a w St hle hd hr⟩
  | succ fuel ih =>
    intro listed k ψ a w St hu hle hd
    refine ⟨fin listed k ψ a w St hle hd, fun j hj => ?_⟩
    obtain ⟨hnl, o, ho, hre⟩ := ready_spec (esize St) hj
    have huu := unl_set hnl
    have hol : ops.toList[j]? = some o := by simpa using ho
    obtain ⟨s, hs⟩ : ∃ s, tr[j]? = some s := by
      have : j < tr.length := by
        rw [T.len]
        rcases Nat.lt_or_ge j ops.toList.length with hx | hx
        · exact hx
        · rw [List.getElem?_eq_none hx] at hol; cases hol
      exact ⟨_, List.getElem?_eq_getElem this⟩
    obtain ⟨hoj, hspec, hsn⟩ := T.at_ j s hs
    rw [hol] at hoj
    obtain rfl := Option.some.inj hoj
    rcases St with I | ⟨B1, w1, l0, b0, vz, rfl, hzl, rfl, I, hkm, hrz, had⟩
    · -- nothing is pending
      have hidx : ∀ h2, s.act = some h2 → (∃ x, (acts 0 tr)[k]? = some (j, x)) ∨ (j = z ∧ k < m) := by
        intro h2 ha
        obtain ⟨_, hm⟩ := T.hp j s hs
        have hm := hm h2 ha
        generalize (acts 0 (tr.take j)).length = mj at hm
        have hnot : ¬ mj < k := fun hlt => by
          have := (I.kth mj j h2 hm).2 hlt
          rw [hnl] at this; cases this
        rcases Nat.lt_or_ge k mj with hlt2 | hge
        · by_cases hjz : j = z
          · subst hjz
            have := same hm Z.ix
            exact .inr ⟨rfl, by omega⟩
          · exfalso
            have hml : mj < (acts 0 tr).length := (List.getElem?_eq_some_iff.1 hm).1
            obtain ⟨⟨i, x⟩, hix⟩ : ∃ p, (acts 0 tr)[k]? = some p := ⟨_, List.getElem?_eq_getElem (by omega)⟩
            have hb := Z.pairs k mj (i, x) (j, h2) hlt2 hix hm hjz
            have := (I.kth k i x hix).1 (bef_listed S I.down (j + 1) j (by omega) s.o hol hre i hb)
            omega
        · have : mj = k := by omega
          subst this
          exact .inl ⟨h2, hm⟩
      by_cases hnow : ∀ h2, s.act = some h2 → ∃ x, (acts 0 tr)[k]? = some (j, x)
      · refine exec_one (hcall _ _) hok S T hst I hs hre hnl (fun t _ => rfl) hnow fun ψ' v' w' k' hle' hv hk H' => ?_
        exact ih _ k' ψ' _ w' (.inl (I.step S T hs hre hnl hle' hv hk H')) (by omega) (Map.le_trans hle hle') ((hdef _ _ _).trans hd)
      · -- it comes early
        obtain ⟨h2, ha, hno⟩ : ∃ h2, s.act = some h2 ∧ ¬ ∃ x, (acts 0 tr)[k]? = some (j, x) := by
          rcases hc : s.act with _ | h2
          · exact absurd (fun h2 e => by rw [hc] at e; cases e) hnow
          · refine ⟨h2, rfl, fun hx => hnow fun _ _ => hx⟩
        obtain ⟨hjz, hkm⟩ := (hidx h2 ha).resolve_left hno
        subst hjz
        obtain rfl : s = sz := Option.some.inj (hs.symm.trans Z.at_)
        obtain ⟨hwt, hact2⟩ := hspec.turn h2 ha
        obtain ⟨hsh, hmm⟩ := T.hp j s hs
        have hmm := hmm h2 ha
        generalize (acts 0 (tr.take j)).length = mj at hsh hmm
        obtain rfl := same hmm Z.ix
        have hreads := I.reads S T hs hre hnl
        have hops := opersOk_spec hok s.o (List.mem_of_getElem? hol)
        have hrev : Rev ψ s.F a.eval s.o.op.operands.toList := rev_of hops I.glob fun t ht => hreads t (List.mem_append_left _ ht)
        have hwant := guard_ok' (ops := ops) (o := s.o) (a := a) (fun g want og d h1 h2 h3 => hreads d (by
          unfold readsOf
          refine List.mem_append_right _ ?_
          rw [h1]
          simp only [h2, h3, List.mem_singleton])) hspec.guard
        have hA : opA P s.F s.h s.o.op = some (s.v, h2) := by
          have := hact2
          unfold actV at this
          rcases Z.new with ⟨t, e⟩ | ⟨t, len, parts, e⟩
          · rw [e] at this ⊢; exact this
          · rw [e] at this ⊢; exact this
        obtain ⟨i, h1, cells, cells', e, f, hn, htag, hl, hvv, hrun⟩ := new_run (P := P) Z.new hrev hA
        unfold wpOp
        rw [ho]
        simp only
        rw [hwant, hwt, if_pos rfl]
        refine .inl ?_
        unfold Oper.wp
        rw [hrun, Oper.upon_value, Z.dst]
        refine ih _ k ψ _ _ (.inr ⟨_, _, listed, a, f w.heap.size, rfl, hnl, rfl, ⟨I.size, I.down, I.kle, I.kth, I.heap.skip _, I.glob, I.n, I.vals, I.rest⟩, hkm, hre, fun ψ' W hle' H' => ?_⟩) (by omega) hle ((hdef _ _ _).trans hd)
        rw [hsh] at hn
        obtain ⟨ψ'', l1, l2, l3⟩ := H'.adopt I.heap.base (I.heap.below.alloc I.heap.inn _) (fun _ h => .inl h) (fun _ h => h) (b := w.heap.size) (.inr rfl) I.heap.newZ (fun k => by rw [cell_new]; simp) (fun k => hard_alloc_new _ _ _ _) hn (hl.mono hle')
        refine ⟨ψ'', l1, hvv _ _ l2, ?_⟩
        rw [hAt_succ _ _ _ _ hmm]
        rcases htag with rfl | rfl
        · exact l3
        · refine l3.tag (l3.dom _ _ l2) fun b σ κ e' => ?_
          rw [l2] at e'
          cases e'
          have := H'.below.block w.heap.size (.inr rfl)
          exact ⟨_, _, this.trans (heap_alloc_new _ _)⟩
    · -- it is pending
      have hzs : z < l0.size := by
        rcases Nat.lt_or_ge z l0.size with hx | hx
        · exact hx
        · rw [Array.getElem?_eq_none hx] at hzl; cases hzl
      have hjz : j ≠ z := by
        rintro rfl
        have : (l0.setIfInBounds j true)[j]? = some true := (lst_set hzs j).2 (.inl rfl)
        rw [hnl] at this; cases this
      have hnl0 : l0[j]? = some false := by rwa [Array.getElem?_setIfInBounds_ne (Ne.symm hjz)] at hnl
      have down : ∀ (i : Nat) (oi : Oper), ops.toList[i]? = some oi → (l0.setIfInBounds z true)[i]? = some true → ∀ e, e ∈ oi.after.toList → Region.binds .any e = true → (l0.setIfInBounds z true)[e.on]? = some true := by
        intro i oi hi hl e he hb
        rw [lst_set hzs] at hl ⊢
        rcases hl with rfl | hl
        · rw [hoz] at hi; cases hi
          exact .inr (hrz e he hb)
        · exact .inr (I.down i oi hi hl e he hb)
      obtain ⟨ik, yk, hik, hikz⟩ := actIn hkm
      have nodep : ¬ (bef (masks ops.toList []) z j = true ∨ ∃ e, e ∈ s.o.after.toList ∧ e.on = z) := by
        intro hd
        have hb := Z.deps j s.o hol hd k (ik, yk) hkm hik
        have := bef_listed S down (j + 1) j (by omega) s.o hol hre ik hb
        rw [lst_set hzs] at this
        have := (I.kth k ik yk hik).1 (this.resolve_left hikz)
        omega
      have hre0 : ∀ e, e ∈ s.o.after.toList → Region.binds .any e = true → l0[e.on]? = some true := by
        intro e he hb
        have := hre e he hb
        rw [lst_set hzs] at this
        exact this.resolve_left fun h => nodep (.inr ⟨e, he, h⟩)
      have hdz : dz ∉ readsOf ops.toList s.o := by
        intro hm
        obtain ⟨h1, h2⟩ := (S.pair z j sz.o s.o hoz hol (Ne.symm hjz) dz Z.dst).2 hm
        rcases Nat.lt_or_ge z j with hlt2 | hge
        · exact nodep (.inl (h1 hlt2))
        · have hb := h2 (by omega)
          have := bef_listed S I.down (z + 1) z (by omega) sz.o hoz hrz j hb
          rw [hnl0] at this; cases this
      have hdj : s.o.dst ≠ some dz := (S.pair z j sz.o s.o hoz hol (Ne.symm hjz) dz Z.dst).1
      have hroom : ∀ x : Nat, (some dz : Option Tmp) = some x → x < b0.tmps.size := fun x hx => by
        have := hzspec.room x (by rw [Z.dst]; exact hx)
        rw [hzn] at this; rw [I.n]; exact this
      have hea : ∀ t, t ∈ readsOf ops.toList s.o → (b0.put (some dz) vz).eval (.tmp t) = b0.eval (.tmp t) := by
        intro t ht
        rw [eval_put hroom, if_neg (fun e => hdz (by cases e; exact ht))]
      have hact : ∀ h2, s.act = some h2 → ∃ x, (acts 0 tr)[k]? = some (j, x) := by
        intro h2 ha
        obtain ⟨_, hm⟩ := T.hp j s hs
        have hm := hm h2 ha
        generalize (acts 0 (tr.take j)).length = mj at hm
        have hnot : ¬ mj < k := fun hlt => by
          have := (I.kth mj j h2 hm).2 hlt
          rw [hnl0] at this; cases this
        rcases Nat.lt_or_ge k mj with hlt2 | hge
        · exfalso
          have hb := Z.pairs k mj (ik, yk) (j, h2) hlt2 hik hm hjz
          have := (I.kth k ik yk hik).1 (bef_listed S I.down (j + 1) j (by omega) s.o hol hre0 ik hb)
          omega
        · have : mj = k := by omega
          subst this
          exact ⟨h2, hm⟩
      refine exec_one (hcall _ _) hok S T hst I hs hre0 hnl0 hea hact fun ψ' v' w' k' hle' hv hk H' => ?_
      have I' := I.step S T hs hre0 hnl0 hle' hv hk H'
      have hk' : k' ≤ m := by rcases hk with ⟨_, rfl⟩ | ⟨_, _, rfl⟩ <;> omega
      have hjs : j < l0.size := by
        rcases Nat.lt_or_ge j l0.size with hx | hx
        · exact hx
        · rw [Array.getElem?_eq_none hx] at hnl0; cases hnl0
      have hrz' : ∀ e, e ∈ sz.o.after.toList → Region.binds .any e = true → (l0.setIfInBounds j true)[e.on]? = some true := fun e he hb => (lst_set hjs _).2 (.inr (hrz e he hb))
      have hzl' : (l0.setIfInBounds j true)[z]? = some false := by rw [Array.getElem?_setIfInBounds_ne hjz]; exact hzl
      have hput : (b0.put (some dz) vz).put s.o.dst v' = (b0.put s.o.dst v').put (some dz) vz := put_comm hdj
      have hls : (l0.setIfInBounds z true).setIfInBounds j true = (l0.setIfInBounds j true).setIfInBounds z true := Array.setIfInBounds_comm _ _ (Ne.symm hjz)
      have hfu : unl ((l0.setIfInBounds z true).setIfInBounds j true) ≤ fuel := by omega
      have hdd : ((b0.put (some dz) vz).put s.o.dst v').defers = a0.defers := (hdef _ _ _).trans hd
      rw [hput] at hdd ⊢
      rw [hls] at hfu ⊢
      rcases Nat.lt_or_ge k' m with hlt2 | hge
      · exact ih _ k' ψ' _ w' (.inr ⟨B1, w1, _, _, vz, rfl, hzl', rfl, I', hlt2, hrz', fun ψ2 W l H2 => had ψ2 W (Map.le_trans hle' l) H2⟩) hfu (Map.le_trans hle hle') hdd
      · have hkm' : k' = m := by omega
        rw [hkm'] at I' H'
        obtain ⟨ψ'', l1, l2, l3⟩ := had ψ' w' hle' H'
        have I2 := I'.step S T Z.at_ hrz' hzl' l1 l2 (.inr ⟨xz, Z.ix, rfl⟩) l3
        rw [Z.dst] at I2
        exact ih _ (m + 1) ψ'' _ w' (.inl I2) hfu (Map.le_trans hle (Map.le_trans hle' l1)) hdd

theorem drawn_ok (call : FuncId → List Value → AW → Option (Value × AW)) (hcall : ∀ B0 w0, CallOk P B0 w0 call) (B0 : Zn) (w0 : World) : DrawnOk P B0 w0 call := by
  intro ops F F' h h' hr hok hmix φ a w hF H hG id Q hQ
  unfold runDrawn at hr
  split at hr
  · cases hr
  · rename_i hs
    split at hr
    · rename_i tr F1 h1 ht
      split at hr
      · rename_i hc
        simp only [Option.some.injEq, Prod.mk.injEq] at hr
        obtain ⟨rfl, rfl⟩ := hr
        rw [Bool.and_eq_true] at hc
        have hnone : ∀ i, (Array.replicate ops.size false)[i]? ≠ some true := fun i e => by
          rw [Array.getElem?_replicate] at e
          split at e <;> cases e
        have I0 : Inv P B0 w0 ops tr h F φ (Array.replicate ops.size false) 0 a w.drew := by
          refine ⟨by simp, fun j oj _ hl => absurd hl (hnone j), Nat.zero_le _, fun m i x _ => ⟨fun hl => absurd hl (hnone i), fun hl => by omega⟩, ?_, hG, hF.1, fun j s _ hl => absurd hl (hnone j), fun t _ => hF.2 t⟩
          rw [hAt_zero]; exact H.drew
        have hu : unl (Array.replicate ops.size false) ≤ ops.size := by
          unfold unl
          rw [Array.toList_replicate, List.countP_replicate]
          simp
        have hord := hc.1
        unfold orderedOk at hord
        rw [Bool.or_eq_true] at hord
        rcases hord with h1 | h1
        · exact wp_region_any hmix (drawn_any (hcall B0 w0) hok (static_of hs) (trace_of ht) h1 hc.2 hQ ops.size (Array.replicate ops.size false) 0 φ a _ I0 hu φ.le_refl rfl)
        · obtain ⟨z, m, sz, dz, x, Z⟩ := free_of (trace_of ht) (fun _ h => h) h1
          exact wp_region_any hmix (drawn_free hcall hok (static_of hs) (trace_of ht) Z hc.2 hQ ops.size (Array.replicate ops.size false) 0 φ a _ (.inl I0) hu φ.le_refl rfl)
      · cases hr
    · cases hr

theorem calls_ok (n : Nat) : CallOk P B0 w0 (callF P n) := callF_ok (fun _ h => drawn_ok _ h) n B0 w0

end Go.Abs
end

section
/- What a run of a function without parameters gives its row. -/
open Go.RowKit
namespace Go.Abs
open Go.ChangeShapes

section
variable {H : Type} {enc : TypeId × Value → H} {P : Program}

end

end Go.Abs
end

section
/- Package variables that are tables of integers: laid into the deterministic heap as they stand. -/
open Go.RowKit
namespace Go.Abs
open Go.ChangeShapes

structure Tab where
  g : Nat
  k : IntKind
  zs : List Int

def Tab.obj (t : Tab) : AObj := .var (T.ofList (t.zs.map fun z => Value.int t.k z)) t.zs.length true

theorem shaped_size {P : Program} {W : World} (hlow : Nat.ble (P.globals.size + 1) (begin P (fun _ _ => 0) default).world.heap.size = true) (hsh : W.ShapedOpen P) : P.globals.size ≤ W.heap.size := by
  obtain ⟨o, _, ho, _⟩ := hsh.2 P.globals.size (Nat.le_refl _) (Nat.le_of_ble_eq_true hlow)
  rcases Nat.lt_or_ge W.heap.size P.globals.size with hx | hx
  · rw [Array.getElem?_eq_none (Nat.le_of_lt hx)] at ho; cases ho
  · exact hx

end Go.Abs
end

section
/- What a function's arguments are in the deterministic heap: all that stood when the call began may be read. -/
open Go.RowKit
namespace Go.Abs
open Go.ChangeShapes

/-- A value as the deterministic heap sees it: an empty slice without room lies nowhere. -/
def norm (S : Nat) : Value → Value
  | .slice (some _) 0 0 => .slice (some ⟨S, 0, none⟩) 0 0
  | v => v
def argMap (S : Nat) : Map := fun i => if i < S then some (i, 0, 0) else if i = S then some (0, 0, 0) else none
def T.ofFn {α : Type} (g : Nat → Option α) : Nat → T α
  | 0 => .nil
  | n + 1 => match g n with
    | some a => (T.ofFn g n).set n a
    | none => T.ofFn g n
theorem T.get?_ofFn {α : Type} (g : Nat → Option α) : ∀ (n m : Nat), (T.ofFn g n).get? m = if m < n then g m else none
  | 0, m => by simp [T.ofFn, T.get?]
  | n + 1, m => by
    have ih := T.get?_ofFn g n m
    unfold T.ofFn
    split
    · rename_i a ha
      rw [T.get?_set]
      by_cases e : m = n
      · subst e; rw [if_pos rfl, if_pos (by omega), ha]
      · rw [if_neg e, ih]
        by_cases hl : m < n
        · rw [if_pos hl, if_pos (by omega)]
        · rw [if_neg hl, if_neg (by omega)]
    · rename_i ha
      rw [ih]
      by_cases e : m = n
      · subst e; rw [if_neg (by omega), if_pos (by omega), ha]
      · by_cases hl : m < n
        · rw [if_pos hl, if_pos (by omega)]
        · rw [if_neg hl, if_neg (by omega)]
open Classical in
noncomputable def seen (W : World) (b off : Nat) : Option Value :=
  match W.cell? ⟨b, off, none⟩ with
  | some v => if VRel (argMap W.heap.size) (norm W.heap.size v) v then some (norm W.heap.size v) else none
  | none => none
def cellsIn (W : World) (b : Nat) : Nat := match W.heap[b]? with
  | some (.cells c _ _) => c.size
  | _ => 0
noncomputable def mir (W : World) : AW :=
  ⟨W.heap.size + 1, T.ofFn (fun b => some (.var (T.ofFn (seen W b) (cellsIn W b)) (cellsIn W b) true)) W.heap.size, .nil, .nil⟩
theorem seen_some {W : World} {b off : Nat} {v : Value} (h : seen W b off = some v) : ∃ v', W.cell? ⟨b, off, none⟩ = some v' ∧ VRel (argMap W.heap.size) v v' := by
  unfold seen at h
  split at h
  · rename_i v' hc
    split at h
    · rename_i hr; cases h; exact ⟨v', hc, hr⟩
    · cases h
  · cases h
theorem mir_obj {W : World} {i : Nat} {o : AObj} (h : (mir W).objs.get? i = some o) : i < W.heap.size ∧ o = .var (T.ofFn (seen W i) (cellsIn W i)) (cellsIn W i) true := by
  unfold mir at h
  simp only at h
  rw [T.get?_ofFn] at h
  split at h
  · rename_i hi; exact ⟨hi, (Option.some.inj h).symm⟩
  · cases h
theorem argMap_lt {S i : Nat} (h : i < S) : argMap S i = some (i, 0, 0) := by simp [argMap, h]
theorem argMap_S {S : Nat} : argMap S S = some (0, 0, 0) := by simp [argMap]
theorem mir_rel (W : World) : HRel (Zn.lt W.heap.size) W (argMap W.heap.size) (mir W) W := by
  refine ⟨fun _ h => h, BelowZ.refl _ _, fun i x hx => ?_, fun i o x ho hx => ?_, fun i o ho => ?_, fun i f g lo hi sz cs ho => ?_, fun i j oi oj b σ κ σ' κ' _ hi _ li => ?_, TyR.nil rfl⟩
  · show i < W.heap.size + 1
    unfold argMap at hx
    split at hx
    · omega
    · split at hx
      · omega
      · cases hx
  · obtain ⟨hi, _⟩ := mir_obj ho
    rw [argMap_lt hi] at hx; cases hx; exact hi
  · obtain ⟨hi, rfl⟩ := mir_obj ho
    refine ⟨i, 0, 0, argMap_lt hi, rfl, rfl, fun off v hoff hv => ?_, fun e => (by cases e), fun _ => .inl hi⟩
    rw [T.get?_ofFn, if_pos hoff] at hv
    exact seen_some hv
  · obtain ⟨_, e⟩ := mir_obj ho; cases e
  · obtain ⟨_, rfl⟩ := mir_obj hi; cases li
theorem mir_rd {W : World} {b off : Nat} {v : Value} (hc : W.cell? ⟨b, off, none⟩ = some v) (hv : VRel (argMap W.heap.size) (norm W.heap.size v) v) : (mir W).rd b off = some (norm W.heap.size v) := by
  have hb : ∃ c t fr, W.heap[b]? = some (.cells c t fr) ∧ c[off]? = some v := by
    unfold World.cell? at hc
    split at hc
    · rename_i c t fr hh
      exact ⟨c, t, fr, hh, by simpa using hc⟩
    · cases hc
  obtain ⟨c, t, fr, hh, hco⟩ := hb
  have hlt : b < W.heap.size := (Array.getElem?_eq_some_iff.1 hh).1
  have hoff : off < cellsIn W b := by unfold cellsIn; rw [hh]; exact (Array.getElem?_eq_some_iff.1 hco).1
  unfold AW.rd mir
  simp only
  rw [T.get?_ofFn, if_pos hlt]
  simp only
  rw [Nat.ble_eq_true_of_le hoff]
  simp only
  rw [T.get?_ofFn, if_pos hoff]
  unfold seen
  rw [hc]
  simp only
  rw [if_pos hv]

section
variable {H : Type} {enc : TypeId × Value → H} {P : Program} {W : World}

/-- Names of all that may be read at the start: one name. -/
def argStore (l : List (Option Addr × List Value)) : Store := fun c => if c = 0 then some (.ro l) else none
theorem arg_own {l : List (Option Addr × List Value)} (hl : ∀ a vs, (a, vs) ∈ l → (a = none ∧ vs = []) ∨ ∃ i off, a = some ⟨i, off, none⟩ ∧ i < W.heap.size + 1 ∧ ∀ j, j < vs.length → (mir W).rd i (off + j) = vs[j]?) : Own (mir W) (fun _ => 0) (argStore l) := by
  refine ⟨⟨1, fun c hc => by unfold argStore; rw [if_neg (by omega)]⟩, fun c r hc => ?_⟩
  unfold argStore at hc
  split at hc
  · rename_i e; subst e
    cases hc
    intro a vs hm
    rcases hl a vs hm with x | ⟨i, off, e, hi, hr⟩
    · exact .inl x
    · refine .inr ⟨i, off, e, hi, rfl, fun f g lo hi z t ho => ?_, hr⟩
      obtain ⟨_, e⟩ := mir_obj ho; cases e
  · cases hc

/-- A law whose arguments read behind the call as they read before. -/
theorem post_args {f : Func} {s : ChangeSpec} {apart handsOn : Bool} {args : Array Value} {t : TypeId} {ds gs : List (DataW H)} {before : List MemPlace} {W' : World} (hlaid : laidOutB P = true)
    (hparams : ∀ t', t' ∈ f.params.toList → P.readableRec t' = true ∧ t' < P.types.size) (hr : f.resultTypes = #[t]) (ht : P.underlying t = some .bool) (hv : s.vars = [])
    (hs : ∀ (K : Type) (ds : List (DataW K)), ds.length = f.params.size → (s.fn K ds).results = [.lit (.bool true)] ∧ (s.fn K ds).args = ds ∧ (s.fn K ds).vars = []) (hW : DataW.Whole enc P f.params.toList s.vars apart W args.toList ds gs before) (hB : Below W.heap.size W W') :
    s.post enc P f apart true handsOn false W args (.bool true) W' := by
  have hW' := hW
  have hlt := hW.lt
  obtain ⟨p, q, hA, hV, rfl, hfz, hnd⟩ := hW
  rw [hv] at hV
  obtain ⟨rfl, rfl⟩ := trodVars_none hV
  have hlen : ∀ {ts : List TypeId} {vs : List Value} {ds : List (DataW H)} {ps : List MemPlace}, DataW.TrodAll enc P W 0 (fun _ => true) true ts vs ds ps → ds.length = ts.length := by
    intro ts
    induction ts with
    | nil => intro vs ds ps h; obtain ⟨_, rfl, _⟩ := trodAll_nil h; rfl
    | cons t ts ih => intro vs ds ps h; obtain ⟨v, vs1, d, ds1, a, b, rfl, rfl, rfl, _, h2⟩ := trodAll_cons h; simp [ih h2]
  obtain ⟨h1, h2, h3⟩ := hs H ds (by rw [hlen hA]; simp)
  have stays : ∀ {ts : List TypeId} {vs : List Value} {ds : List (DataW H)} {ps : List MemPlace}, (∀ t', t' ∈ ts → P.readableRec t' = true ∧ t' < P.types.size) → (∀ x ∈ ps, x.block < W.heap.size) → DataW.TrodAll enc P W 0 (fun _ => true) true ts vs ds ps → DataW.TrodAll enc P W' 0 (fun b => decide (b < W.heap.size)) true ts vs ds ps := by
    intro ts
    induction ts with
    | nil => intro vs ds ps _ _ h; obtain ⟨rfl, rfl, rfl⟩ := trodAll_nil h; exact rfl
    | cons t ts ih =>
      intro vs ds ps hp hb h
      obtain ⟨v, vs1, d, ds1, a, b, rfl, rfl, rfl, ha, hb2⟩ := trodAll_cons h
      refine ⟨a, b, Below.trod hlaid (hp t (by simp)).1 (hp t (by simp)).2 ha hB (fun x hx => hb x (List.mem_append_left _ hx)), ih (fun t' h' => hp t' (by simp [h'])) (fun x hx => hb x (List.mem_append_right _ hx)) hb2, rfl⟩
  have hres : ∀ (b : Nat) (sp : Nat → Bool) (hd : Bool), DataW.TrodAll enc P W' b sp hd f.resultTypes.toList ((Value.bool true).resultList f.resultTypes.size) [.lit (.bool true)] [] := by
    intro b sp hd
    rw [hr]
    exact trodAll_mk1 (shut_bool ht _)
  refine ⟨ds, [], _, [], p, [], hW', by rw [List.append_nil, h1]; exact hres _ _ _, by rw [List.append_nil, h2]; exact stays hparams (fun x hx => hlt x (by simp [hx])) hA, by rw [List.append_nil, h3, hv]; exact rfl, hB.frame _, fun e => (by cases e)⟩
end

end Go.Abs
end

section
/- Arguments opened: what their reading says of the memory. -/
open Go.RowKit
namespace Go.Abs
open Go.ChangeShapes
section
variable {H : Type} {enc : TypeId × Value → H} {P : Program} {W : World} {fuel : Nat} {t e : TypeId} {cs : List Value} {x : DataW H × List MemPlace} {held : Bool}

theorem cell_block {a : Addr} {v : Value} (h : W.cell? a = some v) : a.block < W.heap.size ∧ a.spot = none := by
  unfold World.cell? at h
  split at h
  · rename_i c t fr hh
    refine ⟨(Array.getElem?_eq_some_iff.1 hh).1, ?_⟩
    split at h
    · cases h
    · rename_i hs; simpa using hs
  · cases h
theorem cells_get {base : Nat} {a : Addr} {n : Nat} {l : List Value} (h : W.cells? base a n = some l) : l.length = n ∧ ∀ (j : Nat) u, l[j]? = some u → W.cell? (a.add j) = some u := by
  unfold World.cells? at h
  split at h
  · have hl : l.length = n := by simpa using mapM_some_length h
    refine ⟨hl, fun j u hu => ?_⟩
    have hj : j < n := by rw [← hl]; exact (List.getElem?_eq_some_iff.1 hu).1
    have := mapM_some_get h j j (by simp [hj])
    rw [this]; exact hu
  · cases h
theorem add_zero (a : Addr) : a.add 0 = a := by simp [Addr.add]
theorem open_i64 (ht : P.underlying t = some (.int .i64)) (h : DataW.trod enc P W 0 (fun _ => true) held fuel t cs = some x) : ∃ n : Int, cs = [.int .i64 n] ∧ -9223372036854775808 ≤ n ∧ n < 9223372036854775808 := by
  obtain ⟨n, h1, _, h2⟩ := DataW.trod_int ht h
  refine ⟨n, h1, ?_⟩
  simp only [Lit.wf, Bool.and_eq_true, decide_eq_true_eq, IntKind.min, IntKind.max, IntKind.signed, IntKind.bits] at h2
  simp at h2
  omega
/-- Each list of a kind. -/
theorem each_ex {α : Type} {f : α → List Value} : ∀ {css : List (List Value)}, (∀ (i : Nat) c, css[i]? = some c → ∃ x : α, c = f x) → ∃ l : List α, css = l.map f
  | [], _ => ⟨[], rfl⟩
  | c :: css, h => by
    obtain ⟨x, hx⟩ := h 0 c rfl
    obtain ⟨l, hl⟩ := each_ex (css := css) fun i c hc => h (i + 1) c (by simpa using hc)
    exact ⟨x :: l, by rw [hx, hl]; rfl⟩
end
end Go.Abs
end

section
/- Lists of statements, and lines of words, that came in as arguments: what they show. -/
open Go.RowKit
namespace Go.Abs
open Go.ChangeShapes
section
variable {H : Type} {enc : TypeId × Value → H} {P : Program} {W : World} {fuel : Nat} {t e : TypeId} {cs : List Value} {x : DataW H × List MemPlace} {held : Bool}
/-- A slice opened. -/
theorem open_slW (ht : P.underlying t = some (.slice e)) (hk : 0 < P.cellsOf e) (h : DataW.trod enc P W 0 (fun _ => true) held fuel t cs = some x) :
    ∃ (v : Value) (a' : Option Addr) (len cap : Nat) (css : List (List Value)) (n : Nat), cs = [v] ∧ VRel (argMap W.heap.size) (norm W.heap.size v) v ∧ norm W.heap.size v = .slice a' len cap ∧ css.length = len ∧ len ≤ cap ∧ cap ≤ maxLen ∧
      (∀ (i : Nat) c, css[i]? = some c → c.length = P.cellsOf e ∧ ∃ y, DataW.trod enc P W 0 (fun _ => true) held n e c = some y ∧ ∀ z, z ∈ y.1.weights P e → z ∈ x.1.weights P t) ∧ n + 1 = fuel ∧ (len = 0 ∨ ∃ z, z ∈ x.1.weights P t ∧ len * P.bytesOf e ≤ z) ∧
      ((a' = none ∧ len = 0) ∨ ∃ b off, a' = some ⟨b, off, none⟩ ∧ b < W.heap.size + 1 ∧ ∀ (i : Nat) c (j : Nat) u, css[i]? = some c → c[j]? = some u → W.cell? ⟨b, off + i * P.cellsOf e + j, none⟩ = some u) := by
  rcases DataW.trod_slice ht h with ⟨rfl, _⟩ | ⟨a, len, cap, elems, rest, n, hf, rfl, hx, _, hlc, hcm, hel, he, hr, _⟩
  · obtain ⟨n, rfl⟩ : ∃ n, fuel = n + 1 := by
      cases fuel with
      | zero => simp [DataW.trod] at h
      | succ n => exact ⟨n, rfl⟩
    exact ⟨_, none, 0, 0, [], n, rfl, .sliceN 0 0, rfl, rfl, Nat.le_refl _, Nat.zero_le _, fun i c hc => by simp at hc, rfl, .inl rfl, .inl ⟨rfl, rfl⟩⟩
  · have hw : x.1.weights P t = ((elems.map (·.1)).length + (rest.map (·.1)).length) * P.bytesOf e :: (DataW.weightsAll P e (elems.map (·.1)) ++ DataW.weightsAll P e (rest.map (·.1))) := by
      rw [hx]; simp only [DataW.weights, ht]
    have hall : ∀ (l : List (DataW H)) (d : DataW H), d ∈ l → ∀ z, z ∈ d.weights P e → z ∈ DataW.weightsAll P e l := by
      intro l
      induction l with
      | nil => intro d hd; simp at hd
      | cons d' l ih =>
        intro d hd z hz
        rw [DataW.weightsAll]
        rcases List.mem_cons.1 hd with rfl | hd
        · exact List.mem_append_left _ hz
        · exact List.mem_append_right _ (ih d hd z hz)
    have hel2 : ∀ y, y ∈ elems → ∀ z, z ∈ y.1.weights P e → z ∈ x.1.weights P t := fun y hy z hz => by
      rw [hw]
      exact List.mem_cons_of_mem _ (List.mem_append_left _ (hall _ _ (List.mem_map_of_mem hy) z hz))
    have hlw : len = 0 ∨ ∃ z, z ∈ x.1.weights P t ∧ len * P.bytesOf e ≤ z := by
      refine .inr ⟨_, by rw [hw]; exact List.mem_cons_self, Nat.mul_le_mul_right _ ?_⟩
      simp; omega
    -- the elements' cells
    have hex : ∀ i, i < len → ∃ c, W.cells? 0 (a.add (i * P.cellsOf e)) (P.cellsOf e) = some c ∧ ∃ y, DataW.trod enc P W 0 (fun _ => true) held n e c = some y ∧ ∀ z, z ∈ y.1.weights P e → z ∈ x.1.weights P t := by
      intro i hi
      have := he i hi
      rw [List.getElem?_eq_getElem (by omega)] at this
      obtain ⟨c, h1, h2⟩ := Option.bind_eq_some_iff.1 this
      exact ⟨c, h1, _, h2, hel2 _ (List.getElem_mem _)⟩
    let css : List (List Value) := (List.range len).map fun i => (W.cells? 0 (a.add (i * P.cellsOf e)) (P.cellsOf e)).getD []
    have hcs : ∀ (i : Nat) c, css[i]? = some c → W.cells? 0 (a.add (i * P.cellsOf e)) (P.cellsOf e) = some c ∧ ∃ y, DataW.trod enc P W 0 (fun _ => true) held n e c = some y ∧ ∀ z, z ∈ y.1.weights P e → z ∈ x.1.weights P t := by
      intro i c hc
      have hi : i < len := by have := (List.getElem?_eq_some_iff.1 hc).1; simpa [css] using this
      obtain ⟨c', h1, h2⟩ := hex i hi
      have : css[i]? = some c' := by simp [css, hi, h1]
      rw [this] at hc; cases hc
      exact ⟨h1, h2⟩
    have hclen : css.length = len := by simp [css]
    have hcell : 0 < len ∨ 0 < cap → a.block < W.heap.size ∧ a.spot = none := by
      intro h0
      by_cases hl : 0 < len
      · obtain ⟨c, h1, _⟩ := hex 0 hl
        obtain ⟨hl1, hg⟩ := cells_get h1
        have := hg 0 c[0] (List.getElem?_eq_getElem (by omega))
        rw [Nat.zero_mul, add_zero, add_zero] at this
        exact cell_block this
      · have hc0 : 0 < cap := by omega
        obtain ⟨hrl, hrj⟩ := hr rfl
        have := hrj 0 (by omega)
        rw [List.getElem?_eq_getElem (by omega)] at this
        obtain ⟨c, h1, _⟩ := Option.bind_eq_some_iff.1 this
        obtain ⟨hl1, hg⟩ := cells_get h1
        have := hg 0 c[0] (List.getElem?_eq_getElem (by omega))
        rw [show len + 0 = 0 from by omega, Nat.zero_mul, add_zero, add_zero] at this
        exact cell_block this
    by_cases h0 : len = 0 ∧ cap = 0
    · obtain ⟨rfl, rfl⟩ := h0
      refine ⟨_, some ⟨W.heap.size, 0, none⟩, 0, 0, css, n, rfl, ?_, rfl, hclen, hlc, hcm, fun i c hc => ⟨(cells_get (hcs i c hc).1).1, (hcs i c hc).2⟩, hf.symm, hlw, .inr ⟨W.heap.size, 0, rfl, Nat.lt_succ_self _, fun i c j u hc => ?_⟩⟩
      · exact VRel.slice (κ := 0) argMap_S (Nat.zero_le _) (.inr ⟨rfl, rfl⟩)
      · have := (List.getElem?_eq_some_iff.1 hc).1; omega
    · obtain ⟨hb, hs⟩ := hcell (by omega)
      obtain ⟨b, off, sp⟩ := a
      simp only at hs hb
      subst hs
      have hn : norm W.heap.size (.slice (some ⟨b, off, none⟩) len cap) = .slice (some ⟨b, off, none⟩) len cap := by
        unfold norm
        split
        · rename_i e1; cases e1; exact absurd ⟨rfl, rfl⟩ h0
        · rfl
      refine ⟨_, some ⟨b, off, none⟩, len, cap, css, n, rfl, ?_, hn, hclen, hlc, hcm, fun i c hc => ⟨(cells_get (hcs i c hc).1).1, (hcs i c hc).2⟩, hf.symm, hlw, .inr ⟨b, off, rfl, by omega, fun i c j u hc hu => ?_⟩⟩
      · rw [hn]
        exact VRel.slice (κ := 0) (argMap_lt hb) (Nat.zero_le _) (.inl rfl)
      · have := (cells_get (hcs i c hc).1).2 j u hu
        rw [Addr.add_lit, Addr.add_lit] at this
        exact this
end
end Go.Abs
namespace Go.Abs.Fo
open Go.Abs Go.ChangeShapes
section
variable {H : Type} {enc : TypeId × Value → H} {P : Program} {W : World} {held : Bool}

/-- What may be seen of the memory at the start. -/
def GoodV (W : World) (vs : List (Option Addr × List Value)) : Prop := ∀ a l, (a, l) ∈ vs → ∃ b off, a = some ⟨b, off, none⟩ ∧ b < W.heap.size + 1 ∧ ∀ j, j < l.length → (mir W).rd b (off + j) = l[j]?
def Vin (vs : List (Option Addr × List Value)) (a : Option Addr) (l : List Value) : Prop := (a = none ∧ l = []) ∨ (a, l) ∈ vs
theorem GoodV.app {vs ws : List (Option Addr × List Value)} (h : GoodV W vs) (k : GoodV W ws) : GoodV W (vs ++ ws) := fun a l hm => by
  rcases List.mem_append.1 hm with x | x
  · exact h a l x
  · exact k a l x
theorem GoodV.cons {vs : List (Option Addr × List Value)} {b off : Nat} {l : List Value} (hb : b < W.heap.size + 1) (hr : ∀ j, j < l.length → (mir W).rd b (off + j) = l[j]?) (k : GoodV W vs) : GoodV W ((some ⟨b, off, none⟩, l) :: vs) := fun a l' hm => by
  rcases List.mem_cons.1 hm with x | x
  · cases x; exact ⟨b, off, rfl, hb, hr⟩
  · exact k a l' x
theorem GoodV.nil : GoodV W [] := fun _ _ h => by simp at h
theorem Vin.mono {vs ws : List (Option Addr × List Value)} {a : Option Addr} {l : List Value} (h : Vin vs a l) (hs : ∀ x, x ∈ vs → x ∈ ws) : Vin ws a l := h.imp id fun x => hs _ x
theorem Vin.vw {vs : List (Option Addr × List Value)} (G : GoodV W vs) {a : Option Addr} {l : List Value} (h : Vin vs a l) : Vw (argStore vs) [] a l := by
  rcases h with x | x
  · exact .inl x
  · refine .inr (Rd.of_ro (c := 0) (by simp) rfl x (SubOf.self ?_))
    obtain ⟨b, off, rfl, _⟩ := G a l x
    intro b' e; cases e; rfl
theorem good_own {vs : List (Option Addr × List Value)} (G : GoodV W vs) : Own (mir W) (fun _ => 0) (argStore vs) := arg_own fun a l hm => .inr (G a l hm)
/-- Cells at places, as the deterministic heap shows them. -/
theorem rd_of {b off k : Nat} {css : List (List Value)} (hk : ∀ c, c ∈ css → c.length = k) (hn : ∀ c, c ∈ css → ∀ u, u ∈ c → VRel (argMap W.heap.size) (norm W.heap.size u) u)
    (hc : ∀ (i : Nat) c (j : Nat) u, css[i]? = some c → c[j]? = some u → W.cell? ⟨b, off + i * k + j, none⟩ = some u) : ∀ j, j < (css.flatten.map (norm W.heap.size)).length → (mir W).rd b (off + j) = (css.flatten.map (norm W.heap.size))[j]? := by
  induction css generalizing off with
  | nil => intro j hj; simp at hj
  | cons c css ih =>
    intro j hj
    have hl := hk c (by simp)
    rw [List.flatten_cons, List.map_append] at hj ⊢
    by_cases hjl : j < c.length
    · rw [List.getElem?_append_left (by simpa using hjl), List.getElem?_map, List.getElem?_eq_getElem hjl]
      have := hc 0 c j c[j] rfl (List.getElem?_eq_getElem hjl)
      rw [Nat.zero_mul, Nat.add_zero] at this
      exact mir_rd this (hn c (by simp) _ (List.getElem_mem hjl))
    · rw [List.getElem?_append_right (by simp; omega), List.length_map]
      rw [List.length_append, List.length_map, List.length_map] at hj
      have := ih (off := off + k) (fun c' h' => hk c' (by simp [h'])) (fun c' h' => hn c' (by simp [h'])) (fun i c' j' u h1 h2 => by
        have := hc (i + 1) c' j' u (by simpa using h1) h2
        rw [show off + k + i * k + j' = off + (i + 1) * k + j' from by rw [Nat.add_mul]; omega]; exact this) (j - c.length) (by simp only [List.length_map]; omega)
      rw [← this, show off + j = off + k + (j - c.length) from by omega]
/-- No part of a datum is greater than the machine. -/
abbrev Light (P : Program) (t : TypeId) (d : DataW H) : Prop := ∀ z, z ∈ d.weights P t → z ≤ 140737488351232
/-- A slice of strings opened. -/
theorem open_words {tA tS : TypeId} (hA : P.underlying tA = some (.slice tS)) (hS : P.underlying tS = some .string) (cS : P.cellsOf tS = 1) (bS : 1 ≤ P.bytesOf tS) {fuel : Nat} {cs : List Value} {x : DataW H × List MemPlace} (h : DataW.trod enc P W 0 (fun _ => true) held fuel tA cs = some x) (hz : Light P tA x.1) :
    ∃ v a cap l vs, cs = [v] ∧ VRel (argMap W.heap.size) (norm W.heap.size v) v ∧ norm W.heap.size v = .slice a (l : List Str).length cap ∧ l.length ≤ cap ∧ cap ≤ maxLen ∧ l.length ≤ 140737488351232 ∧ (∀ s, s ∈ l → s.size ≤ 140737488351232) ∧ GoodV W vs ∧ Vin vs a (strs l) := by
  obtain ⟨v, a', len, cap, css, n, e, hv, hn, hl, hlc, hcm, hc, _, hlw, hw⟩ := open_slW hA (by rw [cS]; decide) h
  obtain ⟨l0, hl0⟩ := each_ex (f := fun s : {s : Str // s.size ≤ 140737488351232} => [Value.string s.1]) (css := css) fun i c hi => by
    obtain ⟨_, y, hy, hyz⟩ := hc i c hi
    obtain ⟨s, e1, e2, _⟩ := DataW.trod_string hS hy
    refine ⟨⟨s, hz _ (hyz _ ?_)⟩, e1⟩
    rw [e2]
    simp only [DataW.weights]
    exact List.mem_singleton.2 rfl
  have hlen : (l0.map (·.1)).length = len := by rw [← hl, hl0]; simp
  have hle : len ≤ 140737488351232 := by
    rcases hlw with h0 | ⟨z, h1, h2⟩
    · omega
    · have := hz z h1
      have : len * 1 ≤ len * P.bytesOf tS := Nat.mul_le_mul_left _ bS
      omega
  have hs : ∀ s, s ∈ l0.map (·.1) → s.size ≤ 140737488351232 := by
    intro s hs
    obtain ⟨y, _, rfl⟩ := List.mem_map.1 hs
    exact y.2
  have hfl : css.flatten.map (norm W.heap.size) = strs (l0.map (·.1)) := by
    rw [hl0]
    clear hl0 hlen hs
    induction l0 with
    | nil => rfl
    | cons s l ih =>
      rw [List.map_cons, List.flatten_cons, List.map_append, ih]
      rfl
  rcases hw with ⟨ha, h0⟩ | ⟨b, off, ha, hb, hr⟩
  · refine ⟨v, a', cap, l0.map (·.1), [], e, hv, by rw [hn, hlen], by omega, hcm, by omega, hs, GoodV.nil, .inl ⟨ha, ?_⟩⟩
    have : l0.map (·.1) = [] := List.eq_nil_of_length_eq_zero (by omega)
    rw [this]; rfl
  · subst ha
    refine ⟨v, _, cap, l0.map (·.1), [(some ⟨b, off, none⟩, strs (l0.map (·.1)))], e, hv, by rw [hn, hlen], by omega, hcm, by omega, hs, GoodV.nil.cons hb ?_, .inr (by simp)⟩
    rw [← hfl]
    rw [cS] at hr hc
    refine rd_of (k := 1) (fun c hcm => ?_) (fun c hcm u hu => ?_) hr
    · obtain ⟨i, hi⟩ := List.getElem?_of_mem hcm
      exact (hc i c hi).1
    · rw [hl0] at hcm
      obtain ⟨s, _, rfl⟩ := List.mem_map.1 hcm
      simp at hu; subst hu
      exact .string _
structure StT (P : Program) (tL tE tI tA tS : TypeId) (fs : Array Field) : Prop where
  list : P.underlying tL = some (.slice tE)
  elem : P.underlying tE = some (.struct fs)
  int : P.underlying tI = some (.int .i64)
  words : P.underlying tA = some (.slice tS)
  str : P.underlying tS = some .string
  cE : P.cellsOf tE = 4
  cI : P.cellsOf tI = 1
  cA : P.cellsOf tA = 1
  cL : P.cellsOf tL = 1
  cS : P.cellsOf tS = 1
  bS : 1 ≤ P.bytesOf tS
  bE : 1 ≤ P.bytesOf tE
  f0 : ∃ f, fs[0]? = some f ∧ f.type = tI ∧ f.offset = 0
  f1 : ∃ f, fs[1]? = some f ∧ f.type = tA ∧ f.offset = 1
  f2 : ∃ f, fs[2]? = some f ∧ f.type = tI ∧ f.offset = 2
  f3 : ∃ f, fs[3]? = some f ∧ f.type = tL ∧ f.offset = 3
/-- A slice of statements, as it is opened. -/
def OpenL (W : World) (v : Value) : Prop :=
  ∃ a cap f cells vs, VRel (argMap W.heap.size) (norm W.heap.size v) v ∧ norm W.heap.size v = .slice a (f : F).len cap ∧ f.len ≤ cap ∧ cap ≤ maxLen ∧ f.len ≤ 140737488351232 ∧ Fits f ∧ GoodV W vs ∧ Vin vs a cells ∧ Lies (Vin vs) f cells
theorem light_at {ts : List TypeId} {ds : List (DataW H)} (h : (DataW.weightsEach P ts ds).all (· ≤ reachBytes) = true) {i : Nat} {t : TypeId} {d : DataW H} (h1 : ts[i]? = some t) (h2 : ds[i]? = some d) : Light P t d := by
  intro z hz
  have each : ∀ (ts : List TypeId) (ds : List (DataW H)) (i : Nat), ts[i]? = some t → ds[i]? = some d → z ∈ DataW.weightsEach P ts ds := by
    intro ts
    induction ts with
    | nil => intro ds i h1; simp at h1
    | cons t' ts ih =>
      intro ds i h1 h2
      cases ds with
      | nil => simp at h2
      | cons d' ds =>
        rw [DataW.weightsEach]
        cases i with
        | zero => simp at h1 h2; subst h1 h2; exact List.mem_append_left _ hz
        | succ i => exact List.mem_append_right _ (ih ds i (by simpa using h1) (by simpa using h2))
  have := List.all_eq_true.1 h z (each ts ds i h1 h2)
  have := of_decide_eq_true this
  exact this
variable {tL tE tI tA tS : TypeId} {fs : Array Field}
theorem open_structF {t : TypeId} {fuel : Nat} {cs : List Value} {x : DataW H × List MemPlace} (ht : P.underlying t = some (.struct fs)) (h : DataW.trod enc P W 0 (fun _ => true) held fuel t cs = some x) :
    ∃ n, n + 1 = fuel ∧ ∀ (i : Nat) (f : Field), fs[i]? = some f → ∃ y, DataW.trod enc P W 0 (fun _ => true) held n f.type ((cs.drop f.offset).take (P.cellsOf f.type)) = some y ∧ ∀ z, z ∈ y.1.weights P f.type → z ∈ x.1.weights P t := by
  obtain ⟨xs, n, hn, hxx, hl, hx, hf⟩ := DataW.trod_struct ht h
  refine ⟨n, by omega, fun i f hi => ?_⟩
  have hlt : i < xs.length := by rw [hx]; exact (Array.getElem?_eq_some_iff.1 hi).1
  rw [hf i f hi, List.getElem?_eq_getElem hlt]
  refine ⟨_, rfl, fun z hz => ?_⟩
  have each : ∀ (ts : List TypeId) (ds : List (DataW H)) (i : Nat) (t : TypeId) (d : DataW H), ts[i]? = some t → ds[i]? = some d → z ∈ d.weights P t → z ∈ DataW.weightsEach P ts ds := by
    intro ts
    induction ts with
    | nil => intro ds i t d h1; simp at h1
    | cons t' ts ih =>
      intro ds i t d h1 h2 h3
      cases ds with
      | nil => simp at h2
      | cons d' ds =>
        rw [DataW.weightsEach]
        cases i with
        | zero => simp at h1 h2; subst h1 h2; exact List.mem_append_left _ h3
        | succ i => exact List.mem_append_right _ (ih ds i t d (by simpa using h1) (by simpa using h2) h3)
  rw [hxx]
  simp only [DataW.weights, ht]
  refine each _ _ i f.type xs[i].1 ?_ ?_ hz
  · rw [List.getElem?_map, Array.getElem?_toList, hi]; rfl
  · rw [List.getElem?_map, List.getElem?_eq_getElem hlt]; rfl
theorem open_each (S : StT P tL tE tI tA tS fs) {N : Nat} (ih : ∀ fuel', fuel' < N → ∀ {cs : List Value} {x : DataW H × List MemPlace}, DataW.trod enc P W 0 (fun _ => true) held fuel' tL cs = some x → Light P tL x.1 → ∃ v, cs = [v] ∧ OpenL W v) :
    ∀ (css : List (List Value)), (∀ c, c ∈ css → c.length = 4 ∧ ∃ n y, n < N ∧ DataW.trod enc P W 0 (fun _ => true) held n tE c = some y ∧ Light P tE y.1) →
      ∃ f vs, (f : F).len = css.length ∧ Fits f ∧ GoodV W vs ∧ Lies (Vin vs) f (css.flatten.map (norm W.heap.size)) ∧ ∀ c, c ∈ css → ∀ u, u ∈ c → VRel (argMap W.heap.size) (norm W.heap.size u) u
  | [], _ => ⟨.nil, [], rfl, trivial, GoodV.nil, rfl, fun c hc => by simp at hc⟩
  | c :: css, hc => by
    obtain ⟨hl, n, y, hN, hy, hyz⟩ := hc c (by simp)
    obtain ⟨m, hm, hf⟩ := open_structF S.elem hy
    obtain ⟨f0, g0, t0, o0⟩ := S.f0
    obtain ⟨f1, g1, t1, o1⟩ := S.f1
    obtain ⟨f2, g2, t2, o2⟩ := S.f2
    obtain ⟨f3, g3, t3, o3⟩ := S.f3
    obtain ⟨y0, h0, z0⟩ := hf 0 _ g0
    obtain ⟨y1, h1, z1⟩ := hf 1 _ g1
    obtain ⟨y2, h2, z2⟩ := hf 2 _ g2
    obtain ⟨y3, h3, z3⟩ := hf 3 _ g3
    rw [t0, o0, S.cI] at h0
    rw [t1, o1, S.cA] at h1
    rw [t1] at z1
    rw [t2, o2, S.cI] at h2
    rw [t3, o3, S.cL] at h3
    rw [t3] at z3
    match c, hl with
    | [x0, x1, x2, x3], _ =>
      obtain ⟨op, e0, _⟩ := open_i64 S.int h0
      obtain ⟨v1, aa, ac, args, ws, e1, r1, n1, k1, k2, k2', k3, k4, k5⟩ := open_words S.words S.str S.cS S.bS h1 (fun z hz => hyz z (z1 z hz))
      obtain ⟨kk, e2, _⟩ := open_i64 S.int h2
      obtain ⟨v3, e3, ba, bc, body, bcells, us, r3, n3, l1, l2, l2', l3, l4, l5, l6⟩ := ih m (by omega) h3 (fun z hz => hyz z (z3 z hz))
      have e0 : [x0] = [_] := e0
      have e1 : [x1] = [_] := e1
      have e2 : [x2] = [_] := e2
      have e3 : [x3] = [_] := e3
      cases e0; cases e1; cases e2; cases e3
      obtain ⟨f, vs, q1, q2, q3, q4, q5⟩ := open_each S ih css fun c' h' => hc c' (by simp [h'])
      refine ⟨.cons op args kk body f, ws ++ us ++ vs, by simp [F.len, q1], ⟨by omega, fun s hs => by have := k3 s hs; omega, by omega, l3, q2⟩, (k4.app l4).app q3, ?_, ?_⟩
      · refine ⟨aa, ac, ba, bc, bcells, css.flatten.map (norm W.heap.size), ?_, k5.mono fun x hx => by simp [hx], l5.mono fun x hx => by simp [hx], l6.mono fun _ _ z => z.mono fun x hx => by simp [hx], q4.mono fun _ _ z => z.mono fun x hx => by simp [hx]⟩
        rw [List.flatten_cons, List.map_append]
        simp only [List.map_cons, List.map_nil, n1, n3]
        rfl
      · intro c' hc' u hu
        rcases List.mem_cons.1 hc' with rfl | hc'
        · simp only [List.mem_cons, List.not_mem_nil, or_false] at hu
          rcases hu with rfl | rfl | rfl | rfl
          · exact .int _ _
          · exact r1
          · exact .int _ _
          · exact r3
        · exact q5 c' hc' u hu
/-- A slice of statements opened. -/
theorem open_stmts (S : StT P tL tE tI tA tS fs) : ∀ (fuel : Nat) {cs : List Value} {x : DataW H × List MemPlace}, DataW.trod enc P W 0 (fun _ => true) held fuel tL cs = some x → Light P tL x.1 → ∃ v, cs = [v] ∧ OpenL W v := by
  intro fuel
  induction fuel using Nat.strongRecOn with
  | ind fuel ih =>
    intro cs x h hz
    obtain ⟨v, a', len, cap, css, n, e, hv, hn, hl, hlc, hcm, hc, hnf, hlw, hw⟩ := open_slW S.list (by rw [S.cE]; decide) h
    have hle : len ≤ 140737488351232 := by
      rcases hlw with h0 | ⟨z, h1, h2⟩
      · omega
      · have := hz z h1
        have : len * 1 ≤ len * P.bytesOf tE := Nat.mul_le_mul_left _ S.bE
        omega
    rw [S.cE] at hc hw
    obtain ⟨f, vs, q1, q2, q3, q4, q5⟩ := open_each S (N := fuel) (fun fuel' hf {cs} {x} h' hz' => ih fuel' hf h' hz') css fun c hcm => by
      obtain ⟨i, hi⟩ := List.getElem?_of_mem hcm
      obtain ⟨h1, y, h2, h3⟩ := hc i c hi
      exact ⟨h1, n, y, by omega, h2, fun z hz' => hz z (h3 z hz')⟩
    refine ⟨v, e, ?_⟩
    rcases hw with ⟨ha, h0⟩ | ⟨b, off, ha, hb, hr⟩
    · have hcss : css = [] := List.eq_nil_of_length_eq_zero (by omega)
      subst hcss
      have hf : f = .nil := by
        cases f with
        | nil => rfl
        | cons _ _ _ _ _ => simp [F.len] at q1
      subst hf
      refine ⟨a', cap, .nil, [], [], hv, ?_, Nat.zero_le _, hcm, Nat.zero_le _, trivial, GoodV.nil, .inl ⟨ha, rfl⟩, rfl⟩
      rw [hn, h0]; rfl
    · refine ⟨a', cap, f, css.flatten.map (norm W.heap.size), (a', css.flatten.map (norm W.heap.size)) :: vs, hv, by rw [hn, q1, hl], by omega, hcm, by omega, q2, ?_, .inr (by simp), q4.mono fun _ _ z => z.mono fun x hx => by simp [hx]⟩
      subst ha
      refine q3.cons hb (rd_of (k := 4) (fun c hcm => ?_) q5 hr)
      obtain ⟨i, hi⟩ := List.getElem?_of_mem hcm
      exact (hc i c hi).1
end
end Go.Abs.Fo
end

section
/- A row with arguments, and with listed package variables, out of what the function comes to. -/
open Go.RowKit
namespace Go.Abs
open Go.ChangeShapes
section
variable {H : Type} {enc : TypeId × Value → H} {P : Program} {f : FuncId} {fn : Func} {s : ChangeSpec} {apart handsOn : Bool} {t : TypeId}

/-- What the model's call does, for a law whose arguments read behind the call as they read before. -/
theorem calls_argsE (hlaid : laidOutB P = true) (hparams : ∀ t', t' ∈ fn.params.toList → P.readableRec t' = true ∧ t' < P.types.size)
    (hr : fn.resultTypes = #[t]) (ht : P.underlying t = some .bool) (hv : s.vars = [])
    (hs : ∀ (K : Type) (ds : List (DataW K)), ds.length = fn.params.size → (s.fn K ds).results = [.lit (.bool true)] ∧ (s.fn K ds).args = ds ∧ (s.fn K ds).vars = [])
    (hlow : Nat.ble (P.globals.size + 1) (begin P (fun _ _ => 0) default).world.heap.size = true)
    {W : World} {args : Array Value} {ds gs : List (DataW H)} {before : List MemPlace} (hW : DataW.Whole enc P fn.params.toList s.vars apart W args.toList ds gs before) (hsh : W.ShapedOpen P)
    (run : ∀ (p : List MemPlace), DataW.TrodAll enc P W 0 (fun _ => true) true fn.params.toList args.toList ds p →
      ∃ avs : List Value, LRel (argMap W.heap.size) avs args.toList ∧ EvQ P f avs (mir W) fun v _ => v = .bool true) :
    Calls P f args W fun e W' => ∃ v, e = .returned v ∧ s.post enc P fn apart true handsOn false W args v W' := by
  have hsz := shaped_size hlow hsh
  have hW0 := hW
  obtain ⟨p, q, hA, _⟩ := hW
  obtain ⟨avs, hrel, v, h', ⟨n, hev⟩, hq⟩ := run _ hA
  subst hq
  rcases calls_ok (B0 := Zn.lt W.heap.size) (w0 := W) n f _ _ _ _ hev with ⟨_, hcalls⟩ | ⟨e2, _⟩
  rotate_left
  · exact absurd rfl (e2 _)
  have hglob : Glob P (argMap W.heap.size) := fun g hg => argMap_lt (Nat.lt_of_lt_of_le hg hsz)
  have hargs : (⟨args.toList⟩ : Array Value) = args := by simp
  have := hcalls _ _ _ hrel (mir_rel _) hglob
  rw [hargs] at this
  refine this.mono fun e W' he => ?_
  obtain ⟨ψ, v', _, rfl, hv', HR⟩ := he
  rw [hv'.bool_inv]
  exact ⟨_, rfl, post_args hlaid hparams hr ht hv hs hW0 HR.below.below⟩
end
end Go.Abs
end
