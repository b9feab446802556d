/- A region whose order is open: whatever the order, it ends as the text's own. -/
import Derived.Test.YtgdkekdedgkglaaBkCtl
open Go.RowKit
namespace Go.Abs
variable {B0 : Nat} {w0 : World} {φ : Map} {h h' : AW} {w : World} {P : Program}

theorem beqV_ok : ∀ (n : Nat) (a b : Value), beqV n a b = true → a = b := by
  have strs : ∀ a b : ByteArray, (a.data.toList == b.data.toList) = true → a = b := by
    intro a b h
    rw [beq_iff_eq] at h
    apply ByteArray.ext
    exact Array.ext' h
  have base : ∀ (n : Nat), (∀ a b, (∀ m, n = m + 1 → ∀ a b, beqV m a b = true → a = b) → beqV n a b = true → a = b) := by
    intro n a b ih h
    have lists : ∀ m, n = m + 1 → ∀ (xs ys : List Value), beqV.go m xs ys = true → xs = ys := by
      intro m hm xs
      induction xs with
      | nil => intro ys h; cases ys with
        | nil => rfl
        | cons y ys => simp [beqV.go] at h
      | cons x xs ihx => intro ys h; cases ys with
        | nil => simp [beqV.go] at h
        | cons y ys =>
          simp only [beqV.go, Bool.and_eq_true] at h
          rw [ih m hm x y h.1, ihx ys h.2]
    unfold beqV at h
    split at h
    · rw [beq_iff_eq] at h; rw [h]
    · simp only [Bool.and_eq_true, decide_eq_true_eq, beq_iff_eq] at h; rw [h.1, h.2]
    · rw [strs _ _ h]
    · simp only [decide_eq_true_eq] at h; rw [h]
    · simp only [Bool.and_eq_true, decide_eq_true_eq] at h; rw [h.1.1, beq_true h.1.2, beq_true h.2]
    · simp only [decide_eq_true_eq] at h; rw [h]
    · rfl
    · rfl
    · simp only [Bool.and_eq_true] at h; rw [beq_true h.1, ih _ rfl _ _ h.2]
    · rename_i m a b
      have := lists m rfl _ _ h
      rw [show a = b from Array.ext' this]
    · rename_i m a b
      have := lists m rfl _ _ h
      rw [show a = b from Array.ext' this]
    · rename_i m f a b f' a' b'
      simp only [Bool.and_eq_true, decide_eq_true_eq] at h
      rw [h.1.1, show a = a' from Array.ext' (lists m rfl _ _ h.1.2), show b = b' from Array.ext' (lists m rfl _ _ h.2)]
    · cases h
  intro n
  induction n with
  | zero => intro a b h; exact base 0 a b (fun m hm => by omega) h
  | succ n ih => intro a b h; exact base (n + 1) a b (fun m hm => by cases hm; exact ih) h

theorem mem_tmpsOf : ∀ {l : List Operand} {t : Nat}, .tmp t ∈ l → t ∈ tmpsOf l
  | x :: l, t, h => by
    rcases List.mem_cons.1 h with rfl | hm
    · simp [tmpsOf]
    · have := mem_tmpsOf hm
      cases x <;> simp [tmpsOf, this]

theorem rev_of {F : Fr} {a : Act} {l : List Operand} (hl : operandsOk P.globals.size l = true) (hG : Glob P φ) (ht : ∀ t, t ∈ tmpsOf l → VRel φ (F.ev (.tmp t)) (a.eval (.tmp t))) : Rev φ F a.eval l := by
  intro x hx
  have hok := operandsOk_spec hl x hx
  cases x with
  | tmp t => exact ht t (mem_tmpsOf hx)
  | const v => exact flat_rel hok
  | global g => exact VRel.ptr (off := 0) (hG g (ble_true hok)) (Nat.zero_le _)
  | func f => exact VRel.func' _ L2.nil L2.nil

theorem guard_ok' {F : Fr} {a : Act} {ops : Array Oper} {o : Oper} {b : Bool} (hd : ∀ j want oj d, o.guard = some (j, want) → ops.toList[j]? = some oj → oj.dst = some d → VRel φ (F.ev (.tmp d)) (a.eval (.tmp d)))
    (hg : guardOk ops.toList F o = some b) : Region.wanted o (yielded ops a.tmps) = b := by
  unfold guardOk at hg
  unfold Region.wanted
  split at hg
  · rename_i he
    simp only [Option.some.injEq] at hg; subst hg
    rw [he]
  · rename_i j want he
    rw [he]
    simp only
    unfold yielded
    split at hg
    · rename_i oj hoj
      have hoj' : ops[j]? = some oj := by simpa using hoj
      rw [hoj']
      simp only [Option.bind_some]
      split at hg
      · rename_i d hdd
        rw [hdd]
        simp only [Option.bind_some]
        have hr := hd j want oj d he hoj hdd
        simp only [Fr.ev, Act.eval] at hr
        have conc : ∀ v, a.tmps.getD d undef = v → ∀ c, v = .bool c → a.tmps[d]? = some (.bool c) := by
          intro v hv c hc
          rw [Array.getD_eq_getD_getElem?] at hv
          cases hx : a.tmps[d]? with
          | none => rw [hx] at hv; simp only [Option.getD_none] at hv; rw [hc] at hv; cases hv
          | some u => rw [hx] at hv; simp only [Option.getD_some] at hv; rw [hv, hc]
        split at hg
        · rename_i c hc
          rw [hc] at hr
          simp only [Option.some.injEq] at hg; subst hg
          have := conc _ hr.bool_inv c rfl
          rw [this]
          cases c <;> cases want <;> rfl
        · rename_i hnb
          simp only [Option.some.injEq] at hg; subst hg
          have hne : ∀ c, a.tmps[d]? ≠ some (.bool c) := by
            intro c hc
            have hgd : a.tmps.getD d undef = .bool c := by rw [Array.getD_eq_getD_getElem?, hc]; rfl
            rw [hgd] at hr
            cases hx : F.t.get? d with
            | none => rw [hx] at hr; cases hr
            | some u => rw [hx] at hr; simp only at hr; cases hr; exact hnb c hx
          cases hx : a.tmps[d]? with
          | none => cases want <;> rfl
          | some u =>
            rw [hx] at hne
            cases u <;> first | (exact absurd rfl (hne _)) | (cases want <;> rfl)
      · rename_i hdd
        rw [hdd]
        simp only [Option.some.injEq] at hg; subst hg
        cases want <;> rfl
    · rename_i hoj
      have hoj' : ops[j]? = none := by simpa using hoj
      rw [hoj']
      simp only [Option.some.injEq] at hg; subst hg
      cases want <;> rfl

/-- An operation that turns the heap, or a call. -/
theorem act_ok {call : FuncId → List Value → AW → Option (Value × AW)} (hcall : CallOk P B0 w0 call) {o : Oper} {F : Fr} {a : Act} {v : Value}
    (hrev : Rev φ F a.eval o.op.operands.toList) (H : HRel B0 w0 φ h w) (hG : Glob P φ) (hv : actV P call F h o = some (v, h')) (K : Act → World → Prop) (Q : Exit → Act → World → Prop)
    (hK : ∀ ψ v' w', φ.le ψ → VRel ψ v v' → HRel B0 w0 ψ h' w' → K (a.put o.dst v') w') : o.wp P a w K Q := by
  unfold actV at hv
  split at hv
  · rename_i f args ats hop
    rw [hop] at hrev
    split at hv
    · rename_i fid cargs ht
      unfold target at ht
      simp only at ht
      split at ht
      · rename_i f' first captured hfe
        simp only [Option.some.injEq, Prod.mk.injEq] at ht
        obtain ⟨rfl, rfl⟩ := ht
        obtain ⟨⟨fn, c, hfn, hbody, hname⟩, hcalls⟩ := hcall _ _ _ _ _ hv
        have hf := hrev f (by simp [Op.operands, Call.operands])
        rw [hfe] at hf
        obtain ⟨first', captured', hfc, hl1, hl2⟩ := hf.func_inv
        have hargs : LRel φ (vals F args) (args.map a.eval).toList := by
          rw [Array.toList_map]
          exact L2.self_map fun x hx => hrev x (by simp [Op.operands, Call.operands]; exact .inr (by simpa using hx))
        have hall : LRel φ (first.toList ++ (vals F args ++ captured.toList)) (first'.toList ++ ((args.map a.eval).toList ++ captured'.toList)) := hl1.append (hargs.append hl2)
        have hC := hcalls φ w _ hall H hG
        have hrun : (execOp a.eval o).run P w = .ok (.enter f' ⟨first'.toList ++ ((args.map a.eval).toList ++ captured'.toList)⟩) w := by
          have harr : (first' ++ args.map a.eval ++ captured' : Array Value) = ⟨first'.toList ++ ((args.map a.eval).toList ++ captured'.toList)⟩ := by
            apply Array.ext'; simp
          simp only [execOp, hop, resolve, hfc, Deferred.ofValue, Sem.run_bind, Sem.run_pure, Result.andThen_ok, invoke, callFunc, run_program, hfn, hname, Bool.false_eq_true, if_false, hbody, Option.isNone_some, harr]
        unfold Oper.wp
        rw [hrun, Oper.upon_enter]
        refine hC.mono fun e w' he => ?_
        obtain ⟨ψ, v', hle, rfl, hvr, H'⟩ := he
        exact hK ψ v' w' hle hvr H'
      · cases ht
    · cases hv
  · obtain ⟨ψ, v', w', hgives, hle, hvr, H'⟩ := opA_ok H hrev hv
    have hfin := hK ψ v' w' hle hvr H'
    unfold Oper.wp
    rcases hgives with hg1 | ⟨rfl, hg1⟩
    · rw [hg1, Oper.upon_value]; exact hfin
    · rw [hg1, Oper.upon_skip]; exact hfin

/-- What a trace says of each of its operations. -/
structure StSpec (P : Program) (call : FuncId → List Value → AW → Option (Value × AW)) (ops : List Oper) (s : St) : Prop where
  guard : guardOk ops s.F s.o = some s.want
  off : s.want = false → s.act = none ∧ s.v = undef
  quiet : s.want = true → s.act = none → opQ P s.F s.h s.o.op = some s.v
  turn : ∀ h', s.act = some h' → s.want = true ∧ actV P call s.F s.h s.o = some (s.v, h')
  room : ∀ d, s.o.dst = some d → d < s.F.n

theorem put_n {F F' : Fr} {d : Option Tmp} {v : Value} (hp : F.put d v = some F') : F'.n = F.n ∧ (∀ x, d = some x → x < F.n) ∧ ∀ t : Nat, F'.ev (.tmp t) = if d = some t then v else F.ev (.tmp t) := by
  unfold Fr.put at hp
  cases d with
  | none => simp only [Option.some.injEq] at hp; subst hp; exact ⟨rfl, fun x e => (by cases e), fun t => by simp⟩
  | some d =>
    simp only at hp
    split at hp
    · rename_i hb
      simp only [Option.some.injEq] at hp; subst hp
      refine ⟨rfl, fun x e => by cases e; exact ble_true hb, fun t => ?_⟩
      by_cases ht : d = t
      · subst ht; simp [Fr.ev, T.get?_set_same]
      · have : ¬ (some d = some t) := fun e => ht (Option.some.inj e)
        rw [if_neg this]
        simp only [Fr.ev]
        rw [T.get?_set_ne _ _ (Ne.symm ht)]
    · cases hp

def hAt : AW → List (Nat × AW) → Nat → AW
  | h, [], _ => h
  | h, _ :: _, 0 => h
  | _, p :: l, k + 1 => hAt p.2 l k

theorem hAt_zero (h : AW) (As : List (Nat × AW)) : hAt h As 0 = h := by cases As <;> rfl

theorem acts_length (k m : Nat) : ∀ (l : List St), (acts k l).length = (acts m l).length
  | [] => rfl
  | s :: l => by
    simp only [acts]
    cases s.act with
    | none => exact acts_length (k + 1) (m + 1) l
    | some h => simp [acts_length (k + 1) (m + 1) l]

/-- The trace, place by place. -/
theorem trace_spec {call : FuncId → List Value → AW → Option (Value × AW)} {ops : List Oper} : ∀ (l : List Oper) (F : Fr) (h : AW) (tr : List St) (F' : Fr) (h' : AW), traceOps P call ops l F h = some (tr, F', h') →
    tr.length = l.length ∧ (∀ (j : Nat) (s : St), tr[j]? = some s → l[j]? = some s.o ∧ StSpec P call ops s ∧ s.F.n = F.n) ∧ F'.n = F.n ∧
    -- the frames
    (∀ (j : Nat) (s : St), tr[j]? = some s → ∀ t : Nat, (∃ (i : Nat) (s' : St), i < j ∧ tr[i]? = some s' ∧ s'.o.dst = some t ∧ s.F.ev (.tmp t) = s'.v ∧ ∀ (i' : Nat) (s'' : St), i < i' → i' < j → tr[i']? = some s'' → s''.o.dst ≠ some t) ∨ ((∀ (i : Nat) (s' : St), i < j → tr[i]? = some s' → s'.o.dst ≠ some t) ∧ s.F.ev (.tmp t) = F.ev (.tmp t))) ∧
    (∀ t : Nat, (∃ (i : Nat) (s' : St), tr[i]? = some s' ∧ s'.o.dst = some t ∧ F'.ev (.tmp t) = s'.v ∧ ∀ (i' : Nat) (s'' : St), i < i' → tr[i']? = some s'' → s''.o.dst ≠ some t) ∨ ((∀ (i : Nat) (s' : St), tr[i]? = some s' → s'.o.dst ≠ some t) ∧ F'.ev (.tmp t) = F.ev (.tmp t))) ∧
    -- the heaps
    (∀ (j : Nat) (s : St), tr[j]? = some s → ∀ k, s.h = hAt h (acts k tr) (acts k (tr.take j)).length ∧ (∀ h2, s.act = some h2 → (acts k tr)[(acts k (tr.take j)).length]? = some (k + j, h2))) ∧
    (∀ k, h' = hAt h (acts k tr) (acts k tr).length)
  | [], F, h, tr, F', h', hr => by
    simp only [traceOps, Option.some.injEq, Prod.mk.injEq] at hr
    obtain ⟨rfl, rfl, rfl⟩ := hr
    exact ⟨rfl, fun j s hj => by simp at hj, rfl, fun j s hj => by simp at hj, fun t => .inr ⟨fun i s' hi => by simp at hi, rfl⟩, fun j s hj => by simp at hj, fun k => rfl⟩
  | o :: l, F, h, tr, F', h', hr => by
    -- one step ahead of the rest
    have cons : ∀ (want : Bool) (act : Option AW) (v : Value) (F1 : Fr) (h1 : AW) (tr1 : List St), F.put o.dst v = some F1 → StSpec P call ops ⟨o, F, h, want, act, v⟩ → (match act with | some x => h1 = x | none => h1 = h) →
        traceOps P call ops l F1 h1 = some (tr1, F', h') → tr = ⟨o, F, h, want, act, v⟩ :: tr1 →
        tr.length = (o :: l).length ∧ (∀ (j : Nat) (s : St), tr[j]? = some s → (o :: l)[j]? = some s.o ∧ StSpec P call ops s ∧ s.F.n = F.n) ∧ F'.n = F.n ∧
        (∀ (j : Nat) (s : St), tr[j]? = some s → ∀ t : Nat, (∃ (i : Nat) (s' : St), i < j ∧ tr[i]? = some s' ∧ s'.o.dst = some t ∧ s.F.ev (.tmp t) = s'.v ∧ ∀ (i' : Nat) (s'' : St), i < i' → i' < j → tr[i']? = some s'' → s''.o.dst ≠ some t) ∨ ((∀ (i : Nat) (s' : St), i < j → tr[i]? = some s' → s'.o.dst ≠ some t) ∧ s.F.ev (.tmp t) = F.ev (.tmp t))) ∧
        (∀ t : Nat, (∃ (i : Nat) (s' : St), tr[i]? = some s' ∧ s'.o.dst = some t ∧ F'.ev (.tmp t) = s'.v ∧ ∀ (i' : Nat) (s'' : St), i < i' → tr[i']? = some s'' → s''.o.dst ≠ some t) ∨ ((∀ (i : Nat) (s' : St), tr[i]? = some s' → s'.o.dst ≠ some t) ∧ F'.ev (.tmp t) = F.ev (.tmp t))) ∧
        (∀ (j : Nat) (s : St), tr[j]? = some s → ∀ k, s.h = hAt h (acts k tr) (acts k (tr.take j)).length ∧ (∀ h2, s.act = some h2 → (acts k tr)[(acts k (tr.take j)).length]? = some (k + j, h2))) ∧
        (∀ k, h' = hAt h (acts k tr) (acts k tr).length) := by
      intro want act v F1 h1 tr1 hput hspec hact htr htreq
      subst htreq
      obtain ⟨pn, proom, pev⟩ := put_n hput
      obtain ⟨q1, q2, q3, q4, q5, q6, q7⟩ := trace_spec l F1 h1 tr1 F' h' htr
      refine ⟨by simp [q1], ?_, q3.trans pn, ?_, ?_, ?_, ?_⟩
      · intro j s hj
        cases j with
        | zero => simp at hj; subst hj; exact ⟨rfl, hspec, rfl⟩
        | succ j =>
          simp at hj
          obtain ⟨a1, a2, a3⟩ := q2 j s hj
          exact ⟨by simpa using a1, a2, a3.trans pn⟩
      · intro j s hj t
        cases j with
        | zero => simp at hj; subst hj; exact .inr ⟨fun i s' hi => by omega, rfl⟩
        | succ j =>
          simp at hj
          rcases q4 j s hj t with ⟨i, s', a1, a2, a3, a4, a5⟩ | ⟨b1, b2⟩
          · refine .inl ⟨i + 1, s', by omega, by simpa using a2, a3, a4, fun i' s'' c1 c2 c3 => ?_⟩
            cases i' with
            | zero => omega
            | succ i' => exact a5 i' s'' (by omega) (by omega) (by simpa using c3)
          · rw [pev] at b2
            by_cases hd : o.dst = some t
            · rw [if_pos hd] at b2
              refine .inl ⟨0, _, by omega, rfl, hd, b2, fun i' s'' c1 c2 c3 => ?_⟩
              cases i' with
              | zero => omega
              | succ i' => exact b1 i' s'' (by omega) (by simpa using c3)
            · rw [if_neg hd] at b2
              refine .inr ⟨fun i s' c1 c2 => ?_, b2⟩
              cases i with
              | zero => simp at c2; subst c2; exact hd
              | succ i => exact b1 i s' (by omega) (by simpa using c2)
      · intro t
        rcases q5 t with ⟨i, s', a2, a3, a4, a5⟩ | ⟨b1, b2⟩
        · refine .inl ⟨i + 1, s', by simpa using a2, a3, a4, fun i' s'' c1 c3 => ?_⟩
          cases i' with
          | zero => omega
          | succ i' => exact a5 i' s'' (by omega) (by simpa using c3)
        · rw [pev] at b2
          by_cases hd : o.dst = some t
          · rw [if_pos hd] at b2
            refine .inl ⟨0, _, rfl, hd, b2, fun i' s'' c1 c3 => ?_⟩
            cases i' with
            | zero => omega
            | succ i' => exact b1 i' s'' (by simpa using c3)
          · rw [if_neg hd] at b2
            refine .inr ⟨fun i s' c2 => ?_, b2⟩
            cases i with
            | zero => simp at c2; subst c2; exact hd
            | succ i => exact b1 i s' (by simpa using c2)
      · intro j s hj k
        cases j with
        | zero =>
          simp at hj; subst hj
          refine ⟨(hAt_zero _ _).symm, fun h2 e => ?_⟩
          simp only at e
          subst e
          simp [acts]
        | succ j =>
          simp at hj
          obtain ⟨a1, a2⟩ := q6 j s hj (k + 1)
          cases act with
          | none =>
            simp only at hact; subst hact
            simp only [acts, List.take_succ_cons]
            exact ⟨a1, fun h2 e => by rw [a2 h2 e]; congr 2; omega⟩
          | some x =>
            simp only at hact; subst hact
            simp only [acts, List.take_succ_cons, List.length_cons]
            refine ⟨?_, fun h2 e => by rw [List.getElem?_cons_succ, a2 h2 e]; congr 2; omega⟩
            rw [a1]; rfl
      · intro k
        have := q7 (k + 1)
        cases act with
        | none =>
          simp only at hact; subst hact
          simpa only [acts] using this
        | some x =>
          simp only at hact; subst hact
          simp only [acts, List.length_cons]
          rw [this]; rfl
    simp only [traceOps] at hr
    split at hr
    · cases hr
    · rename_i hg
      split at hr
      · rename_i F1 hput
        split at hr
        · rename_i tr1 r htr
          simp only [Option.some.injEq, Prod.mk.injEq] at hr
          obtain ⟨rfl, rfl⟩ := hr
          exact cons false none undef F1 h tr1 hput ⟨hg, fun _ => ⟨rfl, rfl⟩, fun e => (by cases e), fun h' e => (by cases e), (put_n hput).2.1⟩ rfl htr rfl
        · cases hr
      · cases hr
    · rename_i hg
      split at hr
      · rename_i v hq
        split at hr
        · rename_i F1 hput
          split at hr
          · rename_i tr1 r htr
            simp only [Option.some.injEq, Prod.mk.injEq] at hr
            obtain ⟨rfl, rfl⟩ := hr
            exact cons true none v F1 h tr1 hput ⟨hg, fun e => (by cases e), fun _ _ => hq, fun h' e => (by cases e), (put_n hput).2.1⟩ rfl htr rfl
          · cases hr
        · cases hr
      · split at hr
        · rename_i v h1 hq
          split at hr
          · rename_i F1 hput
            split at hr
            · rename_i tr1 r htr
              simp only [Option.some.injEq, Prod.mk.injEq] at hr
              obtain ⟨rfl, rfl⟩ := hr
              exact cons true (some h1) v F1 h1 tr1 hput ⟨hg, fun e => (by cases e), fun _ e => (by cases e), fun h' e => (by cases e; exact ⟨rfl, hq⟩), (put_n hput).2.1⟩ rfl htr rfl
            · cases hr
          · cases hr
        · cases hr

end Go.Abs
