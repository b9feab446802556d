/- A region whose order is open, joined. -/
import Derived.Test.YtgdkekdedgkglaaBkDraw2
open Go.RowKit
namespace Go.Abs
variable {B0 : Nat} {w0 : World} {φ ψ : Map} {h h' h0 : AW} {w : World} {P : Program}

structure Inv (P : Program) (B0 : Nat) (w0 : World) (ops : Array Oper) (tr : List St) (h0 : AW) (F0 : Fr) (ψ : Map) (listed : Array Bool) (k : Nat) (a : Act) (w : World) : Prop where
  size : listed.size = ops.size
  down : ∀ (j : Nat) (oj : Oper), ops.toList[j]? = some oj → listed[j]? = some true → ∀ e, e ∈ oj.after.toList → Region.binds .any e = true → listed[e.on]? = some true
  kle : k ≤ (acts 0 tr).length
  kth : ∀ (m i : Nat) (x : AW), (acts 0 tr)[m]? = some (i, x) → (listed[i]? = some true ↔ m < k)
  heap : HRel B0 w0 ψ (hAt h0 (acts 0 tr) k) w
  glob : Glob P ψ
  n : a.tmps.size = F0.n
  vals : ∀ (j : Nat) (s : St), tr[j]? = some s → listed[j]? = some true → ∀ t : Nat, s.o.dst = some t → VRel ψ s.v (a.eval (.tmp t))
  rest : ∀ t : Nat, (∀ (j : Nat) (s : St), tr[j]? = some s → listed[j]? = some true → s.o.dst ≠ some t) → VRel ψ (F0.ev (.tmp t)) (a.eval (.tmp t))

theorem eval_put {a : Act} {d : Option Tmp} {v : Value} (hd : ∀ x : Nat, d = some x → x < a.tmps.size) (t : Nat) : (a.put d v).eval (.tmp t) = if d = some t then v else a.eval (.tmp t) := by
  cases d with
  | none => simp [Act.put]
  | some d =>
    have hlt := hd d rfl
    by_cases htd : d = t
    · subst htd
      rw [if_pos rfl]
      simp only [Act.put, Act.eval]
      rw [Array.getD_eq_getD_getElem?, Array.getElem?_setIfInBounds_self, if_pos hlt]
      rfl
    · rw [if_neg (fun e => htd (Option.some.inj e))]
      simp only [Act.put, Act.eval]
      rw [Array.getD_eq_getD_getElem?, Array.getElem?_setIfInBounds_ne htd, ← Array.getD_eq_getD_getElem?]

theorem lst_set {listed : Array Bool} {j : Nat} (hj : j < listed.size) (i : Nat) : (listed.setIfInBounds j true)[i]? = some true ↔ i = j ∨ listed[i]? = some true := by
  by_cases h : i = j
  · subst h; simp [hj]
  · rw [Array.getElem?_setIfInBounds_ne (Ne.symm h)]; simp [h]

theorem bef_listed {ops : List Oper} (S : Static ops) {listed : Array Bool} (hdown : ∀ (j : Nat) (oj : Oper), ops[j]? = some oj → listed[j]? = some true → ∀ e, e ∈ oj.after.toList → Region.binds .any e = true → listed[e.on]? = some true) :
    ∀ (n j : Nat), j < n → ∀ oj, ops[j]? = some oj → (∀ e, e ∈ oj.after.toList → Region.binds .any e = true → listed[e.on]? = some true) → ∀ i, bef (masks ops []) i j = true → listed[i]? = some true := by
  intro n
  induction n with
  | zero => intro j hj; omega
  | succ n ih =>
    intro j hj oj hoj he i hb
    obtain ⟨e, hm, hbi, hc⟩ := S.mask j oj i hoj hb
    rcases hc with rfl | hc
    · exact he e hm hbi
    · have hlt := S.edge j oj hoj e hm hbi
      have hlen : j < ops.length := by
        rcases Nat.lt_or_ge j ops.length with hx | hx
        · exact hx
        · rw [List.getElem?_eq_none hx] at hoj; cases hoj
      obtain ⟨oe, hoe⟩ : ∃ oe, ops[e.on]? = some oe := ⟨_, List.getElem?_eq_getElem (by omega)⟩
      exact ih e.on (by omega) oe hoe (hdown e.on oe hoe (he e hm hbi)) i hc

/-- What is known of the trace of a region. -/
structure Trace (P : Program) (call : FuncId → List Value → AW → Option (Value × AW)) (ops : Array Oper) (tr : List St) (F0 F' : Fr) (h0 h' : AW) : Prop where
  len : tr.length = ops.toList.length
  at_ : ∀ (j : Nat) (s : St), tr[j]? = some s → ops.toList[j]? = some s.o ∧ StSpec P call ops.toList s ∧ s.F.n = F0.n
  n : F'.n = F0.n
  fr : ∀ (j : Nat) (s : St), tr[j]? = some s → ∀ t : Nat, (∃ (i : Nat) (s' : St), i < j ∧ tr[i]? = some s' ∧ s'.o.dst = some t ∧ s.F.ev (.tmp t) = s'.v) ∨ ((∀ (i : Nat) (s' : St), i < j → tr[i]? = some s' → s'.o.dst ≠ some t) ∧ s.F.ev (.tmp t) = F0.ev (.tmp t))
  fin : ∀ t : Nat, (∃ (i : Nat) (s' : St), tr[i]? = some s' ∧ s'.o.dst = some t ∧ F'.ev (.tmp t) = s'.v) ∨ ((∀ (i : Nat) (s' : St), tr[i]? = some s' → s'.o.dst ≠ some t) ∧ F'.ev (.tmp t) = F0.ev (.tmp t))
  hp : ∀ (j : Nat) (s : St), tr[j]? = some s → ∃ m, s.h = hAt h0 (acts 0 tr) m ∧ (∀ h2, s.act = some h2 → (acts 0 tr)[m]? = some (j, h2))
  last : h' = hAt h0 (acts 0 tr) (acts 0 tr).length

theorem trace_of {call : FuncId → List Value → AW → Option (Value × AW)} {ops : Array Oper} {F F' : Fr} {tr : List St} (ht : traceOps P call ops.toList ops.toList F h = some (tr, F', h')) : Trace P call ops tr F F' h h' := by
  obtain ⟨q1, q2, q3, q4, q5, q6, q7⟩ := trace_spec ops.toList F h tr F' h' ht
  refine ⟨q1, q2, q3, fun j s hj t => ?_, fun t => ?_, fun j s hj => ?_, q7 0⟩
  · rcases q4 j s hj t with ⟨i, s', a, b, c, d, _⟩ | b
    · exact .inl ⟨i, s', a, b, c, d⟩
    · exact .inr b
  · rcases q5 t with ⟨i, s', b, c, d, _⟩ | b
    · exact .inl ⟨i, s', b, c, d⟩
    · exact .inr b
  · have := q6 j s hj 0
    exact ⟨_, this.1, fun h2 e => by have := this.2 h2 e; rwa [Nat.zero_add] at this⟩

variable {call : FuncId → List Value → AW → Option (Value × AW)} {ops : Array Oper} {tr : List St} {F0 F' : Fr}

theorem Inv.step {listed : Array Bool} {k : Nat} {a : Act} (S : Static ops.toList) (T : Trace P call ops tr F0 F' h0 h') (I : Inv P B0 w0 ops tr h0 F0 ψ listed k a w) {j : Nat} {s : St} (hj : tr[j]? = some s)
    (hre : ∀ e, e ∈ s.o.after.toList → Region.binds .any e = true → listed[e.on]? = some true) (hnl : listed[j]? = some false) {ψ' : Map} (hle : ψ.le ψ') {v' : Value} (hv : VRel ψ' s.v v') {k' : Nat}
    (hk : (s.act = none ∧ k' = k) ∨ (∃ x, (acts 0 tr)[k]? = some (j, x) ∧ k' = k + 1)) {w' : World} (H' : HRel B0 w0 ψ' (hAt h0 (acts 0 tr) k') w') :
    Inv P B0 w0 ops tr h0 F0 ψ' (listed.setIfInBounds j true) k' (a.put s.o.dst v') w' := by
  obtain ⟨hoj, hspec, hsn⟩ := T.at_ j s hj
  have hjs : j < listed.size := by
    rcases Nat.lt_or_ge j listed.size with hx | hx
    · exact hx
    · rw [Array.getElem?_eq_none hx] at hnl; cases hnl
  have hroom : ∀ x : Nat, s.o.dst = some x → x < a.tmps.size := fun x hx => by have := hspec.room x hx; rw [hsn] at this; rw [I.n]; exact this
  refine ⟨by simpa using I.size, ?_, ?_, ?_, H', I.glob.mono hle, ?_, ?_, ?_⟩
  · intro i oi hi hl e he hb
    rw [lst_set hjs] at hl ⊢
    rcases hl with rfl | hl
    · rw [hoj] at hi; cases hi
      exact .inr (hre e he hb)
    · exact .inr (I.down i oi hi hl e he hb)
  · rcases hk with ⟨_, rfl⟩ | ⟨x, hx, rfl⟩
    · exact I.kle
    · rcases Nat.lt_or_ge k (acts 0 tr).length with hy | hy
      · exact hy
      · rw [List.getElem?_eq_none hy] at hx; cases hx
  · intro m i x hm
    rw [lst_set hjs]
    have hI := I.kth m i x hm
    rcases hk with ⟨hn, rfl⟩ | ⟨y, hy, rfl⟩
    · have hne : i ≠ j := by
        rintro rfl
        obtain ⟨_, ⟨s', a1, a2⟩, _⟩ := acts_at tr 0 m i x hm
        rw [Nat.sub_zero, hj] at a1
        cases a1
        rw [hn] at a2; cases a2
      simp only [hne, false_or]
      exact hI
    · by_cases hij : i = j
      · subst hij
        have e1 := (acts_at tr 0 m i x hm).2.2
        have e2 := (acts_at tr 0 k i y hy).2.2
        have : m = k := e1.trans e2.symm
        subst this
        simp
      · simp only [hij, false_or, hI]
        constructor
        · intro hx; omega
        · intro hx
          rcases Nat.lt_or_ge m k with hz | hz
          · exact hz
          · have : m = k := by omega
            subst this
            rw [hm] at hy; cases hy; exact absurd rfl hij
  · have : (a.put s.o.dst v').tmps.size = a.tmps.size := by cases s.o.dst <;> simp [Act.put]
    rw [this]; exact I.n
  · intro i si hi hl t ht
    rw [eval_put hroom]
    rw [lst_set hjs] at hl
    by_cases hij : i = j
    · subst hij
      rw [hj] at hi; cases hi
      rw [if_pos ht]; exact hv
    · have hl' : listed[i]? = some true := by simpa [hij] using hl
      have hne := (S.pair i j si.o s.o (T.at_ i si hi).1 hoj hij t ht).1
      rw [if_neg hne]
      exact (I.vals i si hi hl' t ht).mono hle
  · intro t ht
    rw [eval_put hroom]
    have hnj : s.o.dst ≠ some t := ht j s hj (by rw [lst_set hjs]; exact .inl rfl)
    rw [if_neg hnj]
    exact (I.rest t fun i si hi hl => ht i si hi (by rw [lst_set hjs]; exact .inr hl)).mono hle

/-- What an operation that may come next looks at is what the text's own order shows it. -/
theorem Inv.reads {listed : Array Bool} {k : Nat} {a : Act} (S : Static ops.toList) (T : Trace P call ops tr F0 F' h0 h') (I : Inv P B0 w0 ops tr h0 F0 ψ listed k a w) {j : Nat} {s : St} (hj : tr[j]? = some s)
    (hre : ∀ e, e ∈ s.o.after.toList → Region.binds .any e = true → listed[e.on]? = some true) (hnl : listed[j]? = some false) :
    ∀ t, t ∈ readsOf ops.toList s.o → VRel ψ (s.F.ev (.tmp t)) (a.eval (.tmp t)) := by
  intro t ht
  obtain ⟨hoj, hspec, hsn⟩ := T.at_ j s hj
  rcases T.fr j s hj t with ⟨i, si, a1, a2, a3, a4⟩ | ⟨b1, b2⟩
  · have hb := ((S.pair i j si.o s.o (T.at_ i si a2).1 hoj (by omega) t a3).2 ht).1 a1
    have hl := bef_listed S I.down (j + 1) j (by omega) s.o hoj hre i hb
    rw [a4]
    exact I.vals i si a2 hl t a3
  · rw [b2]
    refine I.rest t fun i si hi hl hd => ?_
    rcases Nat.lt_or_ge i j with hlt | hge
    · exact b1 i si hlt hi hd
    · have hne : i ≠ j := by rintro rfl; rw [hnl] at hl; cases hl
      have hb := ((S.pair i j si.o s.o (T.at_ i si hi).1 hoj hne t hd).2 ht).2 (by omega)
      have := bef_listed S I.down (i + 1) i (by omega) si.o (T.at_ i si hi).1 (I.down i si.o (T.at_ i si hi).1 hl) j hb
      rw [hnl] at this; cases this

theorem ready_spec {listed : Array Bool} (hsz : listed.size = ops.size) {i : Nat} (hi : i ∈ Region.ready .any ops listed) :
    listed[i]? = some false ∧ ∃ o, ops[i]? = some o ∧ ∀ e, e ∈ o.after.toList → Region.binds .any e = true → listed[e.on]? = some true := by
  unfold Region.ready at hi
  simp only [List.mem_filter, List.mem_range, Bool.and_eq_true, Bool.not_eq_true'] at hi
  obtain ⟨h1, h2, h3⟩ := hi
  rw [Array.getD_eq_getD_getElem?, Array.getElem?_eq_getElem (by omega)] at h2
  refine ⟨by rw [Array.getElem?_eq_getElem (by omega)]; exact congrArg some h2, ?_⟩
  rw [Array.getElem?_eq_getElem h1] at h3
  simp only [Option.map_some, Option.getD_some] at h3
  refine ⟨ops[i], Array.getElem?_eq_getElem h1, fun e he hb => ?_⟩
  rw [Array.all_eq_true'] at h3
  have := h3 e (by simpa using he)
  rw [hb] at this
  simp only [Bool.not_true, Bool.false_or] at this
  rw [Array.getD_eq_getD_getElem?] at this
  cases hx : listed[e.on]? with
  | none => rw [hx] at this; cases this
  | some b => rw [hx] at this; simp only [Option.getD_some] at this; rw [this]

theorem all_listed {listed : Array Bool} (hsz : listed.size = ops.size) (S : Static ops.toList) (hr : Region.ready .any ops listed = []) : ∀ (n i : Nat), i < n → i < ops.size → listed[i]? = some true := by
  intro n
  induction n with
  | zero => intro i hi; omega
  | succ n ih =>
    intro i hi hlt
    cases hl : listed[i]? with
    | none => rw [Array.getElem?_eq_getElem (by omega)] at hl; cases hl
    | some b =>
      cases b with
      | true => rfl
      | false =>
        exfalso
        have hmem : i ∈ Region.ready .any ops listed := by
          unfold Region.ready
          simp only [List.mem_filter, List.mem_range, Bool.and_eq_true, Bool.not_eq_true']
          refine ⟨hlt, ?_, ?_⟩
          · rw [Array.getD_eq_getD_getElem?, hl]; rfl
          · rw [Array.getElem?_eq_getElem hlt]
            simp only [Option.map_some, Option.getD_some]
            rw [Array.all_eq_true']
            intro e he
            cases hb : Region.binds .any e with
            | false => rfl
            | true =>
              have hlt' := S.edge i ops[i] (by rw [Array.getElem?_toList]; exact Array.getElem?_eq_getElem hlt) e (by simpa using he) hb
              rw [Array.getD_eq_getD_getElem?, ih e.on (by omega) (by omega)]; rfl
        rw [hr] at hmem; cases hmem

theorem drawn_any (hcall : CallOk P B0 w0 call) (hok : opersOk P.globals.size ops.toList = true) (S : Static ops.toList) (T : Trace P call ops tr F0 F' h0 h') (hch : chainOk (masks ops.toList []) (acts 0 tr) = true) (hst : stsOk P (masks ops.toList []) h0 (acts 0 tr) 0 tr = true) {Q : Exit → Act → World → Prop} {φ : Map} {a0 : Act}
    (hQ : ∀ ψ a' w', φ.le ψ → FRel ψ F' a' → HRel B0 w0 ψ h' w' → a'.defers = a0.defers → Q .normal a' w') :
    ∀ (fuel : Nat) (listed : Array Bool) (k : Nat) (ψ : Map) (a : Act) (w : World), Inv P B0 w0 ops tr h0 F0 ψ listed k a w → unl listed ≤ fuel → φ.le ψ → a.defers = a0.defers → wpAny P .any ops Q fuel listed a w := by
  have hdef : ∀ (a : Act) d v, (a.put d v).defers = a.defers := fun a d v => by cases d <;> rfl
  have fin : ∀ (listed : Array Bool) (k : Nat) (ψ : Map) (a : Act) (w : World), Inv P B0 w0 ops tr h0 F0 ψ listed k a w → φ.le ψ → a.defers = a0.defers → Region.ready .any ops listed = [] → Q .normal a w := by
    intro listed k ψ a w I hle hd hr
    have hall : ∀ i, i < ops.size → listed[i]? = some true := fun i hi => all_listed I.size S hr (i + 1) i (by omega) hi
    have hlt : ∀ (i : Nat) (s : St), tr[i]? = some s → i < ops.size := fun i s hi => by
      have : i < tr.length := by
        rcases Nat.lt_or_ge i tr.length with hx | hx
        · exact hx
        · rw [List.getElem?_eq_none hx] at hi; cases hi
      rw [T.len] at this; simpa using this
    refine hQ ψ a w hle ⟨by rw [I.n, T.n], fun t => ?_⟩ ?_ hd
    · rcases T.fin t with ⟨i, si, a1, a2, a3⟩ | ⟨b1, b2⟩
      · rw [a3]; exact I.vals i si a1 (hall i (hlt i si a1)) t a2
      · rw [b2]; exact I.rest t fun i si hi _ => b1 i si hi
    · have hk : k = (acts 0 tr).length := by
        rcases Nat.lt_or_ge k (acts 0 tr).length with hx | hx
        · obtain ⟨⟨i, x⟩, hix⟩ : ∃ p, (acts 0 tr)[k]? = some p := ⟨_, List.getElem?_eq_getElem hx⟩
          obtain ⟨_, ⟨s, a1, _⟩, _⟩ := acts_at tr 0 k i x hix
          have := (I.kth k i x hix).1 (hall i (hlt i s (by simpa using a1)))
          omega
        · exact Nat.le_antisymm I.kle hx
      rw [T.last, ← hk]
      exact I.heap
  intro fuel
  induction fuel with
  | zero =>
    intro listed k ψ a w I hu hle hd
    have hr : Region.ready .any ops listed = [] := by
      cases hx : Region.ready .any ops listed with
      | nil => rfl
      | cons i l =>
        have := (ready_spec I.size (i := i) (by rw [hx]; simp)).1
        have := unl_set this
        omega
    exact ⟨hr, fin listed k ψ a w I hle hd hr⟩
  | succ fuel ih =>
    intro listed k ψ a w I hu hle hd
    refine ⟨fin listed k ψ a w I hle hd, fun j hj => ?_⟩
    obtain ⟨hnl, o, ho, hre⟩ := ready_spec I.size hj
    have huu := unl_set hnl
    have hol : ops.toList[j]? = some o := by simpa using ho
    obtain ⟨s, hs⟩ : ∃ s, tr[j]? = some s := by
      have : j < tr.length := by
        rw [T.len]
        rcases Nat.lt_or_ge j ops.toList.length with hx | hx
        · exact hx
        · rw [List.getElem?_eq_none hx] at hol; cases hol
      exact ⟨_, List.getElem?_eq_getElem this⟩
    obtain ⟨hoj, hspec, hsn⟩ := T.at_ j s hs
    rw [hol] at hoj
    obtain rfl := Option.some.inj hoj
    have hreads := I.reads S T hs hre hnl
    have hmem : s.o ∈ ops.toList := List.mem_of_getElem? hol
    have hops := opersOk_spec hok s.o hmem
    have hrev : Rev ψ s.F a.eval s.o.op.operands.toList := rev_of hops I.glob fun t ht => hreads t (List.mem_append_left _ ht)
    have hwant := guard_ok' (ops := ops) (o := s.o) (a := a) (fun g want og d h1 h2 h3 => hreads d (by
      unfold readsOf
      refine List.mem_append_right _ ?_
      rw [h1]
      simp only [h2, h3, List.mem_singleton])) hspec.guard
    have next : ∀ (ψ' : Map) (v' : Value) (w' : World) (k' : Nat), ψ.le ψ' → VRel ψ' s.v v' → ((s.act = none ∧ k' = k) ∨ (∃ x, (acts 0 tr)[k]? = some (j, x) ∧ k' = k + 1)) → HRel B0 w0 ψ' (hAt h0 (acts 0 tr) k') w' →
        wpAny P .any ops Q fuel (listed.setIfInBounds j true) (a.put s.o.dst v') w' := fun ψ' v' w' k' hle' hv hk H' =>
      ih _ k' ψ' _ w' (I.step S T hs hre hnl hle' hv hk H') (by omega) (Map.le_trans hle hle') ((hdef _ _ _).trans hd)
    unfold wpOp
    rw [ho]
    simp only
    rw [hwant]
    cases hw : s.want with
    | false =>
      rw [if_neg (by simp)]
      obtain ⟨e1, e2⟩ := hspec.off hw
      exact next ψ undef w k ψ.le_refl (by rw [e2]; exact VRel.undef) (.inl ⟨e1, rfl⟩) I.heap
    | true =>
      rw [if_pos rfl]
      refine .inl ?_
      have hbl : ∀ i, bef (masks ops.toList []) i j = true → listed[i]? = some true := fun i hb => bef_listed S I.down (j + 1) j (by omega) s.o hol hre i hb
      cases ha : s.act with
      | none =>
        have hq := hspec.quiet hw ha
        have hst' := sts_spec hst j s hs
        rw [Nat.zero_add] at hst'
        unfold stOk at hst'
        rw [ha, hw] at hst'
        simp only at hst'
        have hchk := chk_spec (acts 0 tr) h0 k hst' I.kle
          (fun m p hm hp => by
            cases hb : bef (masks ops.toList []) j p.1 with
            | false => rfl
            | true =>
              obtain ⟨i, x⟩ := p
              have hl := (I.kth m i x hp).2 hm
              obtain ⟨_, ⟨si, a1, _⟩, _⟩ := acts_at tr 0 m i x hp
              rw [Nat.sub_zero] at a1
              have hoi := (T.at_ i si a1).1
              have := bef_listed S I.down (i + 1) i (by omega) si.o hoi (I.down i si.o hoi hl) j hb
              rw [hnl] at this; cases this)
          (fun m p hm hp => by
            cases hb : bef (masks ops.toList []) p.1 j with
            | false => rfl
            | true =>
              obtain ⟨i, x⟩ := p
              have := (I.kth m i x hp).1 (hbl i hb)
              omega)
        split at hchk
        · rename_i v hv
          have hvs := beqV_ok _ _ _ hchk
          subst hvs
          obtain ⟨v', hrun, hvr⟩ := opQ_ok (P := P) I.heap hrev hv
          unfold Oper.wp
          rw [hrun, Oper.upon_value]
          exact next ψ v' w k ψ.le_refl hvr (.inl ⟨ha, rfl⟩) I.heap
        · cases hchk
      | some h2 =>
        obtain ⟨_, hact⟩ := hspec.turn h2 ha
        obtain ⟨m, hsh, hm⟩ := T.hp j s hs
        have hm := hm h2 ha
        have hmk : m = k := by
          have hnot : ¬ m < k := fun hlt => by
            have := (I.kth m j h2 hm).2 hlt
            rw [hnl] at this; cases this
          rcases Nat.lt_or_ge k m with hlt | hge
          · exfalso
            obtain ⟨m', rfl⟩ : ∃ m', m = m' + 1 := ⟨m - 1, by omega⟩
            obtain ⟨⟨i, x⟩, hix⟩ : ∃ p, (acts 0 tr)[m']? = some p := by
              have : m' < (acts 0 tr).length := by
                rcases Nat.lt_or_ge m' (acts 0 tr).length with hx | hx
                · exact hx
                · rw [List.getElem?_eq_none (by omega)] at hm; cases hm
              exact ⟨_, List.getElem?_eq_getElem this⟩
            have := (I.kth m' i x hix).1 (hbl i (chain_spec hch m' (i, x) (j, h2) hix hm))
            omega
          · omega
        subst hmk
        rw [hsh] at hact
        refine act_ok hcall hrev I.heap I.glob hact _ Q fun ψ' v' w' hle' hv H' => ?_
        refine next ψ' v' w' (m + 1) hle' hv (.inr ⟨h2, hm, rfl⟩) ?_
        rw [hAt_succ _ _ _ _ hm]
        exact H'

theorem drawn_ok (call : FuncId → List Value → AW → Option (Value × AW)) (hcall : CallOk P B0 w0 call) : DrawnOk P B0 w0 call := by
  intro ops F F' h h' hr hok hmix φ a w hF H hG id Q hQ
  unfold runDrawn at hr
  split at hr
  · cases hr
  · rename_i hs
    split at hr
    · rename_i tr F1 h1 ht
      split at hr
      · rename_i hc
        simp only [Option.some.injEq, Prod.mk.injEq] at hr
        obtain ⟨rfl, rfl⟩ := hr
        rw [Bool.and_eq_true] at hc
        have hnone : ∀ i, (Array.replicate ops.size false)[i]? ≠ some true := fun i e => by
          rw [Array.getElem?_replicate] at e
          split at e <;> cases e
        refine wp_region_any hmix (drawn_any hcall hok (static_of hs) (trace_of ht) hc.1 hc.2 hQ ops.size (Array.replicate ops.size false) 0 φ a _ ⟨by simp, fun j oj _ hl => absurd hl (hnone j), Nat.zero_le _, fun m i x _ => ⟨fun hl => absurd hl (hnone i), fun hl => by omega⟩, ?_, hG, hF.1,
          fun j s _ hl => absurd hl (hnone j), fun t _ => hF.2 t⟩ ?_ φ.le_refl rfl)
        · rw [hAt_zero]; exact H.drew
        · unfold unl
          rw [Array.toList_replicate, List.countP_replicate]
          simp
      · cases hr
    · cases hr

theorem calls_ok (n : Nat) : CallOk P B0 w0 (callF P n) := callF_ok drawn_ok n

end Go.Abs
