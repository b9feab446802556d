/- A deterministic heap for the model, proved sound, and walks of the program over it: part 4. No condition. -/
import Derived.Test.YtamoepfiodgbbaaGreatDoorAb3
set_option linter.unusedVariables false
set_option linter.unusedSimpArgs false
set_option linter.unusedSectionVars false
section
/- A region whose order is open: whatever the order, it ends as the text's own. -/
open Go.RowKit
namespace Go.Abs
variable {B0 : Zn} {w0 : World} {φ : Map} {h h' : AW} {w : World} {P : Program}

theorem beqV_ok : ∀ (n : Nat) (a b : Value), beqV n a b = true → a = b := by
  have strs : ∀ a b : ByteArray, (a.data.toList == b.data.toList) = true → a = b := by
    intro a b h
    rw [beq_iff_eq] at h
    apply ByteArray.ext
    exact Array.ext' h
  have base : ∀ (n : Nat), (∀ a b, (∀ m, n = m + 1 → ∀ a b, beqV m a b = true → a = b) → beqV n a b = true → a = b) := by
    intro n a b ih h
    have lists : ∀ m, n = m + 1 → ∀ (xs ys : List Value), beqV.go m xs ys = true → xs = ys := by
      intro m hm xs
      induction xs with
      | nil => intro ys h; cases ys with
        | nil => rfl
        | cons y ys => simp [beqV.go] at h
      | cons x xs ihx => intro ys h; cases ys with
        | nil => simp [beqV.go] at h
        | cons y ys =>
          simp only [beqV.go, Bool.and_eq_true] at h
          rw [ih m hm x y h.1, ihx ys h.2]
    unfold beqV at h
    split at h
    · rw [beq_iff_eq] at h; rw [h]
    · simp only [Bool.and_eq_true, decide_eq_true_eq, beq_iff_eq] at h; rw [h.1, h.2]
    · rw [strs _ _ h]
    · simp only [decide_eq_true_eq] at h; rw [h]
    · simp only [Bool.and_eq_true, decide_eq_true_eq] at h; rw [h.1.1, beq_true h.1.2, beq_true h.2]
    · simp only [decide_eq_true_eq] at h; rw [h]
    · rfl
    · rfl
    · simp only [Bool.and_eq_true] at h; rw [beq_true h.1, ih _ rfl _ _ h.2]
    · rename_i m a b
      have := lists m rfl _ _ h
      rw [show a = b from Array.ext' this]
    · rename_i m a b
      have := lists m rfl _ _ h
      rw [show a = b from Array.ext' this]
    · rename_i m f a b f' a' b'
      simp only [Bool.and_eq_true, decide_eq_true_eq] at h
      rw [h.1.1, show a = a' from Array.ext' (lists m rfl _ _ h.1.2), show b = b' from Array.ext' (lists m rfl _ _ h.2)]
    · cases h
  intro n
  induction n with
  | zero => intro a b h; exact base 0 a b (fun m hm => by omega) h
  | succ n ih => intro a b h; exact base (n + 1) a b (fun m hm => by cases hm; exact ih) h

theorem mem_tmpsOf : ∀ {l : List Operand} {t : Nat}, .tmp t ∈ l → t ∈ tmpsOf l
  | x :: l, t, h => by
    rcases List.mem_cons.1 h with rfl | hm
    · simp [tmpsOf]
    · have := mem_tmpsOf hm
      cases x <;> simp [tmpsOf, this]

theorem rev_of {F : Fr} {a : Act} {l : List Operand} (hl : operandsOk P.globals.size l = true) (hG : Glob P φ) (ht : ∀ t, t ∈ tmpsOf l → VRel φ (F.ev (.tmp t)) (a.eval (.tmp t))) : Rev φ F a.eval l := by
  intro x hx
  have hok := operandsOk_spec hl x hx
  cases x with
  | tmp t => exact ht t (mem_tmpsOf hx)
  | const v => exact flat_rel hok
  | global g => exact VRel.ptr (off := 0) (hG g (ble_true hok)) (Nat.zero_le _)
  | func f => exact VRel.func' _ L2.nil L2.nil

theorem guard_ok' {F : Fr} {a : Act} {ops : Array Oper} {o : Oper} {b : Bool} (hd : ∀ j want oj d, o.guard = some (j, want) → ops.toList[j]? = some oj → oj.dst = some d → VRel φ (F.ev (.tmp d)) (a.eval (.tmp d)))
    (hg : guardOk ops.toList F o = some b) : Region.wanted o (yielded ops a.tmps) = b := by
  unfold guardOk at hg
  unfold Region.wanted
  split at hg
  · rename_i he
    simp only [Option.some.injEq] at hg; subst hg
    rw [he]
  · rename_i j want he
    rw [he]
    simp only
    unfold yielded
    split at hg
    · rename_i oj hoj
      have hoj' : ops[j]? = some oj := by simpa using hoj
      rw [hoj']
      simp only [Option.bind_some]
      split at hg
      · rename_i d hdd
        rw [hdd]
        simp only [Option.bind_some]
        have hr := hd j want oj d he hoj hdd
        simp only [Fr.ev, Act.eval] at hr
        have conc : ∀ v, a.tmps.getD d undef = v → ∀ c, v = .bool c → a.tmps[d]? = some (.bool c) := by
          intro v hv c hc
          rw [Array.getD_eq_getD_getElem?] at hv
          cases hx : a.tmps[d]? with
          | none => rw [hx] at hv; simp only [Option.getD_none] at hv; rw [hc] at hv; cases hv
          | some u => rw [hx] at hv; simp only [Option.getD_some] at hv; rw [hv, hc]
        split at hg
        · rename_i c hc
          rw [hc] at hr
          simp only [Option.some.injEq] at hg; subst hg
          have := conc _ hr.bool_inv c rfl
          rw [this]
          cases c <;> cases want <;> rfl
        · rename_i hnb
          simp only [Option.some.injEq] at hg; subst hg
          have hne : ∀ c, a.tmps[d]? ≠ some (.bool c) := by
            intro c hc
            have hgd : a.tmps.getD d undef = .bool c := by rw [Array.getD_eq_getD_getElem?, hc]; rfl
            rw [hgd] at hr
            cases hx : F.t.get? d with
            | none => rw [hx] at hr; cases hr
            | some u => rw [hx] at hr; simp only at hr; cases hr; exact hnb c hx
          cases hx : a.tmps[d]? with
          | none => cases want <;> rfl
          | some u =>
            rw [hx] at hne
            cases u <;> first | (exact absurd rfl (hne _)) | (cases want <;> rfl)
      · rename_i hdd
        rw [hdd]
        simp only [Option.some.injEq] at hg; subst hg
        cases want <;> rfl
    · rename_i hoj
      have hoj' : ops[j]? = none := by simpa using hoj
      rw [hoj']
      simp only [Option.some.injEq] at hg; subst hg
      cases want <;> rfl

/-- An operation that turns the heap, or a call. -/
theorem act_ok {call : FuncId → List Value → AW → Option (Value × AW)} (hcall : CallOk P B0 w0 call) {o : Oper} {F : Fr} {a : Act} {v : Value}
    (hrev : Rev φ F a.eval o.op.operands.toList) (H : HRel B0 w0 φ h w) (hG : Glob P φ) (hv : actV P call F h o = some (v, h')) (K : Act → World → Prop) (Q : Exit → Act → World → Prop)
    (hK : ∀ ψ v' w', φ.le ψ → VRel ψ v v' → HRel B0 w0 ψ h' w' → K (a.put o.dst v') w') : o.wp P a w K Q := by
  unfold actV at hv
  split at hv
  · rename_i f args ats hop
    rw [hop] at hrev
    split at hv
    · rename_i fid cargs ht
      unfold target at ht
      simp only at ht
      split at ht
      · rename_i f' first captured hfe
        simp only [Option.some.injEq, Prod.mk.injEq] at ht
        obtain ⟨rfl, rfl⟩ := ht
        have hf := hrev f (by simp [Op.operands, Call.operands])
        rw [hfe] at hf
        obtain ⟨first', captured', hfc, hl1, hl2⟩ := hf.func_inv
        have hargs : LRel φ (vals F args) (args.map a.eval).toList := by
          rw [Array.toList_map]
          exact L2.self_map fun x hx => hrev x (by simp [Op.operands, Call.operands]; exact .inr (by simpa using hx))
        have hall : LRel φ (first.toList ++ (vals F args ++ captured.toList)) (first'.toList ++ ((args.map a.eval).toList ++ captured'.toList)) := hl1.append (hargs.append hl2)
        rcases hcall _ _ _ _ _ hv with ⟨⟨fn, c, hfn, hbody, hname⟩, hcalls⟩ | ⟨_, hext⟩
        rotate_left
        · obtain ⟨ψ, x', w', hle, hx, H', hext⟩ := hext φ w _ hall H
          have harr : (first' ++ args.map a.eval ++ captured' : Array Value) = ⟨first'.toList ++ ((args.map a.eval).toList ++ captured'.toList)⟩ := by
            apply Array.ext'; simp
          have hrun : (execOp a.eval o).run P w = .ok (.value x') w' := by
            simp only [execOp, hop, resolve, hfc, Deferred.ofValue, Sem.run_bind, Sem.run_pure, Result.andThen_ok, invoke, harr, hext]
          unfold Oper.wp
          rw [hrun, Oper.upon_value]
          exact hK ψ x' w' hle hx H'
        have hC := hcalls φ w _ hall H hG
        have hrun : (execOp a.eval o).run P w = .ok (.enter f' ⟨first'.toList ++ ((args.map a.eval).toList ++ captured'.toList)⟩) w := by
          have harr : (first' ++ args.map a.eval ++ captured' : Array Value) = ⟨first'.toList ++ ((args.map a.eval).toList ++ captured'.toList)⟩ := by
            apply Array.ext'; simp
          simp only [execOp, hop, resolve, hfc, Deferred.ofValue, Sem.run_bind, Sem.run_pure, Result.andThen_ok, invoke, callFunc, run_program, hfn, hname, Bool.false_eq_true, if_false, hbody, Option.isNone_some, harr]
        unfold Oper.wp
        rw [hrun, Oper.upon_enter]
        refine hC.mono fun e w' he => ?_
        obtain ⟨ψ, v', hle, rfl, hvr, H'⟩ := he
        exact hK ψ v' w' hle hvr H'
      · cases ht
    · cases hv
  · obtain ⟨ψ, v', w', hgives, hle, hvr, H'⟩ := opA_ok H hrev hv
    have hfin := hK ψ v' w' hle hvr H'
    unfold Oper.wp
    rcases hgives with hg1 | ⟨rfl, hg1⟩
    · rw [hg1, Oper.upon_value]; exact hfin
    · rw [hg1, Oper.upon_skip]; exact hfin

/-- What a trace says of each of its operations. -/
structure StSpec (P : Program) (call : FuncId → List Value → AW → Option (Value × AW)) (ops : List Oper) (s : St) : Prop where
  guard : guardOk ops s.F s.o = some s.want
  off : s.want = false → s.act = none ∧ s.v = undef
  quiet : s.want = true → s.act = none → opQ P s.F s.h s.o.op = some s.v
  turn : ∀ h', s.act = some h' → s.want = true ∧ actV P call s.F s.h s.o = some (s.v, h')
  room : ∀ d, s.o.dst = some d → d < s.F.n

theorem put_n {F F' : Fr} {d : Option Tmp} {v : Value} (hp : F.put d v = some F') : F'.n = F.n ∧ (∀ x, d = some x → x < F.n) ∧ ∀ t : Nat, F'.ev (.tmp t) = if d = some t then v else F.ev (.tmp t) := by
  unfold Fr.put at hp
  cases d with
  | none => simp only [Option.some.injEq] at hp; subst hp; exact ⟨rfl, fun x e => (by cases e), fun t => by simp⟩
  | some d =>
    simp only at hp
    split at hp
    · rename_i hb
      simp only [Option.some.injEq] at hp; subst hp
      refine ⟨rfl, fun x e => by cases e; exact ble_true hb, fun t => ?_⟩
      by_cases ht : d = t
      · subst ht; simp [Fr.ev, T.get?_set_same]
      · have : ¬ (some d = some t) := fun e => ht (Option.some.inj e)
        rw [if_neg this]
        simp only [Fr.ev]
        rw [T.get?_set_ne _ _ (Ne.symm ht)]
    · cases hp

def hAt : AW → List (Nat × AW) → Nat → AW
  | h, [], _ => h
  | h, _ :: _, 0 => h
  | _, p :: l, k + 1 => hAt p.2 l k

theorem hAt_zero (h : AW) (As : List (Nat × AW)) : hAt h As 0 = h := by cases As <;> rfl

theorem acts_length (k m : Nat) : ∀ (l : List St), (acts k l).length = (acts m l).length
  | [] => rfl
  | s :: l => by
    simp only [acts]
    cases s.act with
    | none => exact acts_length (k + 1) (m + 1) l
    | some h => simp [acts_length (k + 1) (m + 1) l]

/-- The trace, place by place. -/
theorem trace_spec {call : FuncId → List Value → AW → Option (Value × AW)} {ops : List Oper} : ∀ (l : List Oper) (F : Fr) (h : AW) (tr : List St) (F' : Fr) (h' : AW), traceOps P call ops l F h = some (tr, F', h') →
    tr.length = l.length ∧ (∀ (j : Nat) (s : St), tr[j]? = some s → l[j]? = some s.o ∧ StSpec P call ops s ∧ s.F.n = F.n) ∧ F'.n = F.n ∧
    -- the frames
    (∀ (j : Nat) (s : St), tr[j]? = some s → ∀ t : Nat, (∃ (i : Nat) (s' : St), i < j ∧ tr[i]? = some s' ∧ s'.o.dst = some t ∧ s.F.ev (.tmp t) = s'.v ∧ ∀ (i' : Nat) (s'' : St), i < i' → i' < j → tr[i']? = some s'' → s''.o.dst ≠ some t) ∨ ((∀ (i : Nat) (s' : St), i < j → tr[i]? = some s' → s'.o.dst ≠ some t) ∧ s.F.ev (.tmp t) = F.ev (.tmp t))) ∧
    (∀ t : Nat, (∃ (i : Nat) (s' : St), tr[i]? = some s' ∧ s'.o.dst = some t ∧ F'.ev (.tmp t) = s'.v ∧ ∀ (i' : Nat) (s'' : St), i < i' → tr[i']? = some s'' → s''.o.dst ≠ some t) ∨ ((∀ (i : Nat) (s' : St), tr[i]? = some s' → s'.o.dst ≠ some t) ∧ F'.ev (.tmp t) = F.ev (.tmp t))) ∧
    -- the heaps
    (∀ (j : Nat) (s : St), tr[j]? = some s → ∀ k, s.h = hAt h (acts k tr) (acts k (tr.take j)).length ∧ (∀ h2, s.act = some h2 → (acts k tr)[(acts k (tr.take j)).length]? = some (k + j, h2))) ∧
    (∀ k, h' = hAt h (acts k tr) (acts k tr).length)
  | [], F, h, tr, F', h', hr => by
    simp only [traceOps, Option.some.injEq, Prod.mk.injEq] at hr
    obtain ⟨rfl, rfl, rfl⟩ := hr
    exact ⟨rfl, fun j s hj => by simp at hj, rfl, fun j s hj => by simp at hj, fun t => .inr ⟨fun i s' hi => by simp at hi, rfl⟩, fun j s hj => by simp at hj, fun k => rfl⟩
  | o :: l, F, h, tr, F', h', hr => by
    -- one step ahead of the rest
    have cons : ∀ (want : Bool) (act : Option AW) (v : Value) (F1 : Fr) (h1 : AW) (tr1 : List St), F.put o.dst v = some F1 → StSpec P call ops ⟨o, F, h, want, act, v⟩ → (match act with | some x => h1 = x | none => h1 = h) →
        traceOps P call ops l F1 h1 = some (tr1, F', h') → tr = ⟨o, F, h, want, act, v⟩ :: tr1 →
        tr.length = (o :: l).length ∧ (∀ (j : Nat) (s : St), tr[j]? = some s → (o :: l)[j]? = some s.o ∧ StSpec P call ops s ∧ s.F.n = F.n) ∧ F'.n = F.n ∧
        (∀ (j : Nat) (s : St), tr[j]? = some s → ∀ t : Nat, (∃ (i : Nat) (s' : St), i < j ∧ tr[i]? = some s' ∧ s'.o.dst = some t ∧ s.F.ev (.tmp t) = s'.v ∧ ∀ (i' : Nat) (s'' : St), i < i' → i' < j → tr[i']? = some s'' → s''.o.dst ≠ some t) ∨ ((∀ (i : Nat) (s' : St), i < j → tr[i]? = some s' → s'.o.dst ≠ some t) ∧ s.F.ev (.tmp t) = F.ev (.tmp t))) ∧
        (∀ t : Nat, (∃ (i : Nat) (s' : St), tr[i]? = some s' ∧ s'.o.dst = some t ∧ F'.ev (.tmp t) = s'.v ∧ ∀ (i' : Nat) (s'' : St), i < i' → tr[i']? = some s'' → s''.o.dst ≠ some t) ∨ ((∀ (i : Nat) (s' : St), tr[i]? = some s' → s'.o.dst ≠ some t) ∧ F'.ev (.tmp t) = F.ev (.tmp t))) ∧
        (∀ (j : Nat) (s : St), tr[j]? = some s → ∀ k, s.h = hAt h (acts k tr) (acts k (tr.take j)).length ∧ (∀ h2, s.act = some h2 → (acts k tr)[(acts k (tr.take j)).length]? = some (k + j, h2))) ∧
        (∀ k, h' = hAt h (acts k tr) (acts k tr).length) := by
      intro want act v F1 h1 tr1 hput hspec hact htr htreq
      subst htreq
      obtain ⟨pn, proom, pev⟩ := put_n hput
      obtain ⟨q1, q2, q3, q4, q5, q6, q7⟩ := trace_spec l F1 h1 tr1 F' h' htr
      refine ⟨by simp [q1], ?_, q3.trans pn, ?_, ?_, ?_, ?_⟩
      · intro j s hj
        cases j with
        | zero => simp at hj; subst hj; exact ⟨rfl, hspec, rfl⟩
        | succ j =>
          simp at hj
          obtain ⟨a1, a2, a3⟩ := q2 j s hj
          exact ⟨by simpa using a1, a2, a3.trans pn⟩
      · intro j s hj t
        cases j with
        | zero => simp at hj; subst hj; exact .inr ⟨fun i s' hi => by omega, rfl⟩
        | succ j =>
          simp at hj
          rcases q4 j s hj t with ⟨i, s', a1, a2, a3, a4, a5⟩ | ⟨b1, b2⟩
          · refine .inl ⟨i + 1, s', by omega, by simpa using a2, a3, a4, fun i' s'' c1 c2 c3 => ?_⟩
            cases i' with
            | zero => omega
            | succ i' => exact a5 i' s'' (by omega) (by omega) (by simpa using c3)
          · rw [pev] at b2
            by_cases hd : o.dst = some t
            · rw [if_pos hd] at b2
              refine .inl ⟨0, _, by omega, rfl, hd, b2, fun i' s'' c1 c2 c3 => ?_⟩
              cases i' with
              | zero => omega
              | succ i' => exact b1 i' s'' (by omega) (by simpa using c3)
            · rw [if_neg hd] at b2
              refine .inr ⟨fun i s' c1 c2 => ?_, b2⟩
              cases i with
              | zero => simp at c2; subst c2; exact hd
              | succ i => exact b1 i s' (by omega) (by simpa using c2)
      · intro t
        rcases q5 t with ⟨i, s', a2, a3, a4, a5⟩ | ⟨b1, b2⟩
        · refine .inl ⟨i + 1, s', by simpa using a2, a3, a4, fun i' s'' c1 c3 => ?_⟩
          cases i' with
          | zero => omega
          | succ i' => exact a5 i' s'' (by omega) (by simpa using c3)
        · rw [pev] at b2
          by_cases hd : o.dst = some t
          · rw [if_pos hd] at b2
            refine .inl ⟨0, _, rfl, hd, b2, fun i' s'' c1 c3 => ?_⟩
            cases i' with
            | zero => omega
            | succ i' => exact b1 i' s'' (by simpa using c3)
          · rw [if_neg hd] at b2
            refine .inr ⟨fun i s' c2 => ?_, b2⟩
            cases i with
            | zero => simp at c2; subst c2; exact hd
            | succ i => exact b1 i s' (by simpa using c2)
      · intro j s hj k
        cases j with
        | zero =>
          simp at hj; subst hj
          refine ⟨(hAt_zero _ _).symm, fun h2 e => ?_⟩
          simp only at e
          subst e
          simp [acts]
        | succ j =>
          simp at hj
          obtain ⟨a1, a2⟩ := q6 j s hj (k + 1)
          cases act with
          | none =>
            simp only at hact; subst hact
            simp only [acts, List.take_succ_cons]
            exact ⟨a1, fun h2 e => by rw [a2 h2 e]; congr 2; omega⟩
          | some x =>
            simp only at hact; subst hact
            simp only [acts, List.take_succ_cons, List.length_cons]
            refine ⟨?_, fun h2 e => by rw [List.getElem?_cons_succ, a2 h2 e]; congr 2; omega⟩
            rw [a1]; rfl
      · intro k
        have := q7 (k + 1)
        cases act with
        | none =>
          simp only at hact; subst hact
          simpa only [acts] using this
        | some x =>
          simp only at hact; subst hact
          simp only [acts, List.length_cons]
          rw [this]; rfl
    simp only [traceOps] at hr
    split at hr
    · cases hr
    · rename_i hg
      split at hr
      · rename_i F1 hput
        split at hr
        · rename_i tr1 r htr
          simp only [Option.some.injEq, Prod.mk.injEq] at hr
          obtain ⟨rfl, rfl⟩ := hr
          exact cons false none undef F1 h tr1 hput ⟨hg, fun _ => ⟨rfl, rfl⟩, fun e => (by cases e), fun h' e => (by cases e), (put_n hput).2.1⟩ rfl htr rfl
        · cases hr
      · cases hr
    · rename_i hg
      split at hr
      · rename_i v hq
        split at hr
        · rename_i F1 hput
          split at hr
          · rename_i tr1 r htr
            simp only [Option.some.injEq, Prod.mk.injEq] at hr
            obtain ⟨rfl, rfl⟩ := hr
            exact cons true none v F1 h tr1 hput ⟨hg, fun e => (by cases e), fun _ _ => hq, fun h' e => (by cases e), (put_n hput).2.1⟩ rfl htr rfl
          · cases hr
        · cases hr
      · split at hr
        · rename_i v h1 hq
          split at hr
          · rename_i F1 hput
            split at hr
            · rename_i tr1 r htr
              simp only [Option.some.injEq, Prod.mk.injEq] at hr
              obtain ⟨rfl, rfl⟩ := hr
              exact cons true (some h1) v F1 h1 tr1 hput ⟨hg, fun e => (by cases e), fun _ e => (by cases e), fun h' e => (by cases e; exact ⟨rfl, hq⟩), (put_n hput).2.1⟩ rfl htr rfl
            · cases hr
          · cases hr
        · cases hr

end Go.Abs
end

section
/- A region whose order is open: every order comes to what the text's own comes to. -/
open Go.RowKit
namespace Go.Abs
variable {B0 : Zn} {w0 : World} {φ : Map} {h h' : AW} {w : World} {P : Program}

theorem maskOf_spec {acc : List Nat} {i : Nat} : ∀ {l : List Edge}, (maskOf acc l).testBit i = true → ∃ e, e ∈ l ∧ Region.binds .any e = true ∧ (i = e.on ∨ (acc.getD e.on 0).testBit i = true)
  | [], h => by simp [maskOf] at h
  | e :: l, h => by
    simp only [maskOf] at h
    split at h
    · rename_i hb
      rw [Nat.testBit_or, Nat.testBit_or, Nat.testBit_two_pow] at h
      simp only [Bool.or_eq_true, decide_eq_true_eq] at h
      rcases h with (h | h) | h
      · exact ⟨e, by simp, hb, .inl h.symm⟩
      · exact ⟨e, by simp, hb, .inr h⟩
      · obtain ⟨e', a, b, c⟩ := maskOf_spec h
        exact ⟨e', by simp [a], b, c⟩
    · obtain ⟨e', a, b, c⟩ := maskOf_spec h
      exact ⟨e', by simp [a], b, c⟩

theorem masks_pre : ∀ (l : List Oper) (acc : List Nat), ∃ r, masks l acc = acc ++ r
  | [], acc => ⟨[], by simp [masks]⟩
  | o :: l, acc => by
    obtain ⟨r, hr⟩ := masks_pre l (acc ++ [maskOf acc o.after.toList])
    exact ⟨maskOf acc o.after.toList :: r, by simp [masks, hr]⟩

theorem masks_at : ∀ (l : List Oper) (acc : List Nat) (k : Nat) (o : Oper), l[k]? = some o → ∃ pre r : List Nat, masks l acc = pre ++ maskOf pre o.after.toList :: r ∧ pre.length = acc.length + k := by
  intro l
  induction l with
  | nil => intro acc k o h; simp at h
  | cons o' l ih =>
    intro acc k o h
    cases k with
    | zero =>
      simp only [List.getElem?_cons_zero, Option.some.injEq] at h
      subst h
      obtain ⟨r, hr⟩ := masks_pre l (acc ++ [maskOf acc o'.after.toList])
      refine ⟨acc, r, ?_, by omega⟩
      rw [masks, hr, List.append_assoc]; rfl
    | succ k =>
      rw [List.getElem?_cons_succ] at h
      obtain ⟨pre, r, a, b⟩ := ih (acc ++ [maskOf acc o'.after.toList]) k o h
      refine ⟨pre, r, ?_, ?_⟩
      · rw [masks]; exact a
      · rw [List.length_append, List.length_singleton] at b; omega

theorem edgesOk_spec {j : Nat} : ∀ {l : List Edge}, edgesOk j l = true → ∀ e, e ∈ l → Region.binds .any e = true → e.on < j
  | e :: l, h, x, hx, hb => by
    simp only [edgesOk, Bool.and_eq_true, Bool.or_eq_true, Bool.not_eq_true'] at h
    rcases List.mem_cons.1 hx with rfl | hm
    · rcases h.1 with h1 | h1
      · rw [hb] at h1; cases h1
      · have := ble_true h1; omega
    · exact edgesOk_spec h.2 x hm hb

theorem rowOk_spec {M : List Nat} {ops : List Oper} {j : Nat} {oj : Oper} : ∀ {l : List Oper} {k : Nat}, rowOk M ops j oj k l = true → ∀ i oi, l[i]? = some oi → pairOk M ops (k + i) oi j oj = true
  | [], k, h, i, oi, hi => by simp at hi
  | o :: l, k, h, i, oi, hi => by
    simp only [rowOk, Bool.and_eq_true] at h
    cases i with
    | zero => simp at hi; subst hi; exact h.1
    | succ i =>
      simp at hi
      have := rowOk_spec h.2 i oi hi
      rwa [show k + 1 + i = k + (i + 1) from by omega] at this

theorem allRows_spec {M : List Nat} {ops : List Oper} : ∀ {l : List Oper} {k : Nat}, allRows M ops k l = true → ∀ j oj, l[j]? = some oj → rowOk M ops (k + j) oj 0 ops = true ∧ edgesOk (k + j) oj.after.toList = true
  | [], k, h, j, oj, hj => by simp at hj
  | o :: l, k, h, j, oj, hj => by
    simp only [allRows, Bool.and_eq_true] at h
    cases j with
    | zero => simp at hj; subst hj; exact h.1
    | succ j =>
      simp at hj
      have := allRows_spec h.2 j oj hj
      rwa [show k + 1 + j = k + (j + 1) from by omega] at this

/-- What the fixed look at a region says. -/
structure Static (ops : List Oper) : Prop where
  edge : ∀ j oj, ops[j]? = some oj → ∀ e, e ∈ oj.after.toList → Region.binds .any e = true → e.on < j
  mask : ∀ j oj i, ops[j]? = some oj → bef (masks ops []) i j = true → ∃ e, e ∈ oj.after.toList ∧ Region.binds .any e = true ∧ (i = e.on ∨ bef (masks ops []) i e.on = true)
  pair : ∀ i j oi oj, ops[i]? = some oi → ops[j]? = some oj → i ≠ j → ∀ d, oi.dst = some d → oj.dst ≠ some d ∧ (d ∈ readsOf ops oj → (i < j → bef (masks ops []) i j = true) ∧ (j < i → bef (masks ops []) j i = true))

theorem static_of {ops : List Oper} (hs : staticOk ops = true) : Static ops := by
  have hall := fun j oj hj => allRows_spec (k := 0) hs j oj hj
  simp only [Nat.zero_add] at hall
  refine ⟨fun j oj hj e he hb => edgesOk_spec (hall j oj hj).2 e he hb, ?_, ?_⟩
  · intro j oj i hj hb
    obtain ⟨pre, r, a, b⟩ := masks_at ops [] j oj hj
    simp only [List.length_nil, Nat.zero_add] at b
    unfold bef at hb
    rw [show (masks ops []).getD j 0 = maskOf pre oj.after.toList from by rw [a, List.getD_eq_getElem?_getD, List.getElem?_append_right (by omega), b]; simp] at hb
    obtain ⟨e, he, hbi, hc⟩ := maskOf_spec hb
    have hlt := edgesOk_spec (hall j oj hj).2 e he hbi
    refine ⟨e, he, hbi, hc.imp id fun hc => ?_⟩
    unfold bef
    rw [show (masks ops []).getD e.on 0 = pre.getD e.on 0 from by rw [a, List.getD_eq_getElem?_getD, List.getD_eq_getElem?_getD, List.getElem?_append_left (by omega)]]
    exact hc
  · intro i j oi oj hi hj hij d hd
    have hp := rowOk_spec (hall j oj hj).1 i oi hi
    simp only [Nat.zero_add] at hp
    unfold pairOk at hp
    rw [show Nat.beq i j = false from by cases hb : Nat.beq i j with
      | false => rfl
      | true => exact absurd (beq_true hb) hij, hd] at hp
    simp only [Bool.and_eq_true, Bool.not_eq_true', decide_eq_false_iff_not, Bool.or_eq_true] at hp
    refine ⟨hp.1, fun hm => ?_⟩
    rcases hp.2 with h2 | h2
    · have : (readsOf ops oj).contains d = true := by simpa using hm
      rw [h2] at this; cases this
    · constructor
      · intro hlt
        rw [show Nat.ble (i + 1) j = true from Nat.ble_eq_true_of_le hlt] at h2
        exact h2
      · intro hlt
        rw [show Nat.ble (i + 1) j = false from by cases hb : Nat.ble (i + 1) j with
          | false => rfl
          | true => have := ble_true hb; omega] at h2
        exact h2

theorem acts_at : ∀ (l : List St) (k m i : Nat) (h : AW), (acts k l)[m]? = some (i, h) → k ≤ i ∧ (∃ s, l[i - k]? = some s ∧ s.act = some h) ∧ m = (acts k (l.take (i - k))).length
  | [], k, m, i, h, hm => by simp [acts] at hm
  | s :: l, k, m, i, h, hm => by
    simp only [acts] at hm
    cases ha : s.act with
    | none =>
      rw [ha] at hm
      obtain ⟨a, ⟨s', b, c⟩, d⟩ := acts_at l (k + 1) m i h hm
      have e : i - k = (i - (k + 1)) + 1 := by omega
      refine ⟨by omega, ⟨s', by rw [e]; simpa using b, c⟩, ?_⟩
      rw [e, List.take_succ_cons]
      simp only [acts, ha]
      exact d
    | some x =>
      rw [ha] at hm
      cases m with
      | zero =>
        simp at hm
        obtain ⟨rfl, rfl⟩ := hm
        exact ⟨Nat.le_refl _, ⟨s, by simp, ha⟩, by simp [acts]⟩
      | succ m =>
        simp at hm
        obtain ⟨a, ⟨s', b, c⟩, d⟩ := acts_at l (k + 1) m i h hm
        have e : i - k = (i - (k + 1)) + 1 := by omega
        refine ⟨by omega, ⟨s', by rw [e]; simpa using b, c⟩, ?_⟩
        rw [e, List.take_succ_cons]
        simp only [acts, ha, List.length_cons]
        omega

theorem hAt_succ : ∀ (h : AW) (As : List (Nat × AW)) (k : Nat) (p : Nat × AW), As[k]? = some p → hAt h As (k + 1) = p.2
  | h, [], k, p, hk => by simp at hk
  | h, q :: l, 0, p, hk => by simp at hk; subst hk; simp [hAt, hAt_zero]
  | h, q :: l, k + 1, p, hk => by simp at hk; simp only [hAt]; exact hAt_succ q.2 l k p hk

theorem noneBef_spec {M : List Nat} {j : Nat} : ∀ {As : List (Nat × AW)}, (∀ (m : Nat) (p : Nat × AW), As[m]? = some p → bef M p.1 j = false) → noneBef M j As = true
  | [], _ => rfl
  | p :: l, h => by
    simp only [noneBef, Bool.and_eq_true, Bool.not_eq_true']
    exact ⟨h 0 p rfl, noneBef_spec fun m q hq => h (m + 1) q (by simpa using hq)⟩

theorem chk_spec {M : List Nat} {j own : Nat} {check : AW → Bool} : ∀ (As : List (Nat × AW)) (cur : Nat) (h : AW) (k : Nat), chkFrom M j check own cur h As = true → k ≤ As.length → (∀ (m : Nat) (p : Nat × AW), m < k → As[m]? = some p → bef M j p.1 = false) →
    (∀ (m : Nat) (p : Nat × AW), k ≤ m → As[m]? = some p → bef M p.1 j = false) → cur + k = own ∨ check (hAt h As k) = true
  | [], cur, h, k, hc, hk, _, _ => by
    have : k = 0 := by simpa using hk
    subst this
    simp only [chkFrom, Bool.or_eq_true] at hc
    exact hc.imp (fun e => beq_true e) id
  | p :: l, cur, h, 0, hc, hk, _, h2 => by
    simp only [chkFrom, Bool.and_eq_true, Bool.or_eq_true, Bool.not_eq_true'] at hc
    rcases hc.1 with (h1 | h1) | h1
    · exact .inl (beq_true h1)
    · rw [noneBef_spec fun m q hq => h2 m q (by omega) hq] at h1; cases h1
    · exact .inr h1
  | p :: l, cur, h, k + 1, hc, hk, h1, h2 => by
    simp only [chkFrom, Bool.and_eq_true, Bool.or_eq_true] at hc
    rcases hc.2 with hb | hb
    · rw [h1 0 p (by omega) rfl] at hb; cases hb
    · rcases chk_spec l (cur + 1) p.2 k hb (by simpa using hk) (fun m q hm hq => h1 (m + 1) q (by omega) (by simpa using hq)) (fun m q hm hq => h2 (m + 1) q (by omega) (by simpa using hq)) with e | e
      · exact .inl (by omega)
      · exact .inr e

theorem chain_spec {M : List Nat} : ∀ {As : List (Nat × AW)}, chainOk M As = true → ∀ (m : Nat) (p q : Nat × AW), As[m]? = some p → As[m + 1]? = some q → bef M p.1 q.1 = true
  | [], h, m, p, q, hp, hq => by simp at hp
  | a :: l, h, m, p, q, hp, hq => by
    simp only [chainOk, Bool.and_eq_true] at h
    cases m with
    | zero =>
      simp at hp; subst hp
      cases l with
      | nil => simp at hq
      | cons b l => simp at hq; subst hq; exact h.1
    | succ m =>
      simp at hp
      have hq' : l[m + 1]? = some q := by simpa using hq
      exact chain_spec h.2 m p q hp hq'

theorem sts_spec {M : List Nat} {h : AW} {As : List (Nat × AW)} : ∀ {l : List St} {own k : Nat}, stsOk P M h As own k l = true → ∀ (j : Nat) (s : St), l[j]? = some s → stOk P M h As (own + (acts 0 (l.take j)).length) (k + j) s = true
  | [], own, k, hs, j, s, hj => by simp at hj
  | s' :: l, own, k, hs, j, s, hj => by
    simp only [stsOk, Bool.and_eq_true] at hs
    cases j with
    | zero => simp at hj; subst hj; exact hs.1
    | succ j =>
      simp at hj
      have := sts_spec hs.2 j s hj
      rw [show k + 1 + j = k + (j + 1) from by omega] at this
      rw [List.take_succ_cons]
      simp only [acts]
      cases ha : s'.act with
      | none => rw [ha] at this; simp only at this ⊢; rw [acts_length 1 0]; exact this
      | some x => rw [ha] at this; simp only [List.length_cons] at this ⊢; rw [acts_length 1 0, show own + ((acts 0 (l.take j)).length + 1) = own + 1 + (acts 0 (l.take j)).length from by omega]; exact this

theorem opQ_still {F : Fr} {h h' : AW} {o : Op} (hl : looks o = false) : opQ P F h o = opQ P F h' o := by
  cases o <;> first | (simp [looks] at hl; done) | rfl

def unl (listed : Array Bool) : Nat := listed.toList.countP (!·)

theorem unl_set {listed : Array Bool} {j : Nat} (hj : listed[j]? = some false) : unl listed = unl (listed.setIfInBounds j true) + 1 := by
  unfold unl
  rw [Array.toList_setIfInBounds]
  have hj' : listed.toList[j]? = some false := by simpa using hj
  clear hj
  generalize listed.toList = l at hj'
  induction l generalizing j with
  | nil => simp at hj'
  | cons b l ih =>
    cases j with
    | zero => simp at hj'; subst hj'; simp
    | succ j =>
      simp at hj'
      simp only [List.set_cons_succ, List.countP_cons]
      have := ih hj'
      omega

end Go.Abs
end

section
/- A region whose order is open, but where whatever turns the heap is ordered with whatever looks at it: it runs as the text stands. -/
namespace Go.Abs
variable {P : Program}

end Go.Abs
end

section
/- Walks, first part: what must hold for an operation to come to what is wanted. -/
namespace Go.Abs

/-! Words that a walk is told in. -/
def oB {α : Type} (x : Option α) (f : α → Prop) : Prop := match x with | some a => f a | none => False
def oP (x : Option (Value × AW)) (f : Value → AW → Prop) : Prop := match x with | some (v, h) => f v h | none => False
def bC (b : Bool) (p q : Prop) : Prop := match b with | true => p | false => q
def vInt (k : IntKind) (v : Value) (f : Int → Prop) : Prop := match v with | .int k' n => bC (decide (k' = k)) (f n) False | _ => False
def vBool (v : Value) (f : Bool → Prop) : Prop := match v with | .bool b => f b | _ => False
def vStr (v : Value) (f : ByteArray → Prop) : Prop := match v with | .string s => f s | _ => False
def vPtr (v : Value) (f : Option Addr → Prop) : Prop := match v with | .pointer p => f p | _ => False
def vSl (v : Value) (f : Option Addr → Nat → Nat → Prop) : Prop := match v with | .slice a l c => f a l c | _ => False
def vMap (v : Value) (f : Option Nat → Prop) : Prop := match v with | .map r => f r | _ => False
def vFun (v : Value) (f : FuncId → List Value → List Value → Prop) : Prop := match v with | .func (.func i) a b => f i a.toList b.toList | _ => False
def vIfc (v : Value) (p : Prop) (f : TypeId → Value → Prop) : Prop := match v with | .nilIface => p | .iface t x => f t x | _ => False
def vAgg (v : Value) (f : List Value → Prop) : Prop := match v with | .agg cs => f cs.toList | _ => False
def vTup (v : Value) (f : List Value → Prop) : Prop := match v with | .tuple cs => f cs.toList | _ => False
def lC (l : List Value) (f : Value → List Value → Prop) : Prop := match l with | v :: l => f v l | [] => False
def lN (l : List Value) (p : Prop) : Prop := match l with | [] => p | _ => False
def aP (p : Option Addr) (f : Nat → Nat → Prop) : Prop := match p with | some ⟨i, off, none⟩ => f i off | _ => False
def nilI : Value → Option Bool
  | .nilIface => some true
  | .iface _ _ => some false
  | _ => none
def nilF : Value → Option Bool
  | .nilFunc => some true
  | .func _ _ _ => some false
  | _ => none
def natIdx (z : Int) (n : Nat) : Option Nat :=
  match z with
  | .ofNat i => match Nat.ble (i + 1) n with | true => some i | false => none
  | _ => none
def natBnd (z : Int) (n : Nat) : Option Nat :=
  match z with
  | .ofNat i => match Nat.ble i n with | true => some i | false => none
  | _ => none
def shO (a : Option Addr) (n : Nat) : Option (Option Addr) :=
  match a with
  | none => some none
  | some ⟨b, off, none⟩ => some (some ⟨b, off + n, none⟩)
  | _ => none
def bAt (s : ByteArray) (i : Nat) : Option Int := match s.data[i]? with | some b => some (b.toNat : Int) | none => none
def bSub (s : ByteArray) (lo hi : Nat) : ByteArray := ⟨⟨(s.data.toList.drop lo).take (hi - lo)⟩⟩
def bEq (x y : ByteArray) : Bool := x.data.toList == y.data.toList
def AW.addVar (h : AW) (cells : List Value) : AW := { h with next := h.next + 1, objs := h.objs.set h.next (.var (T.ofList cells) cells.length false) }
def AW.addMap (h : AW) : AW := { h with next := h.next + 1, objs := h.objs.set h.next (.map []) }
def AW.mapL (h : AW) (r : Option Nat) : Option (List (Value × Value)) :=
  match r with
  | none => some []
  | some r => match h.objs.get? r with
    | some (.map es) => some es
    | _ => none
def AW.bytes (h : AW) (a : Option Addr) (len : Nat) : Option ByteArray :=
  match a with
  | none => some .empty
  | some ⟨i, off, none⟩ => match h.rdN i off len with
    | some l => match bytesV l with
      | some bs => some ⟨⟨bs⟩⟩
      | none => none
    | none => none
  | _ => none

theorem oB_ok {α : Type} {x : Option α} {f : α → Prop} (h : oB x f) : ∃ a, x = some a ∧ f a := by
  unfold oB at h; split at h
  · exact ⟨_, rfl, h⟩
  · exact h.elim
theorem oP_ok {x : Option (Value × AW)} {f : Value → AW → Prop} (h : oP x f) : ∃ v h', x = some (v, h') ∧ f v h' := by
  unfold oP at h; split at h
  · exact ⟨_, _, rfl, h⟩
  · exact h.elim
theorem bC_ok {b : Bool} {p q : Prop} (h : bC b p q) : (b = true ∧ p) ∨ (b = false ∧ q) := by
  unfold bC at h; cases b
  · exact .inr ⟨rfl, h⟩
  · exact .inl ⟨rfl, h⟩
theorem vInt_ok {k : IntKind} {v : Value} {f : Int → Prop} (h : vInt k v f) : ∃ n, v = .int k n ∧ f n := by
  unfold vInt at h; split at h
  · rcases bC_ok h with ⟨e, x⟩ | ⟨_, x⟩
    · have := of_decide_eq_true e; subst this; exact ⟨_, rfl, x⟩
    · exact x.elim
  · exact h.elim
theorem vBool_ok {v : Value} {f : Bool → Prop} (h : vBool v f) : ∃ b, v = .bool b ∧ f b := by
  unfold vBool at h; split at h
  · exact ⟨_, rfl, h⟩
  · exact h.elim
theorem vStr_ok {v : Value} {f : ByteArray → Prop} (h : vStr v f) : ∃ b, v = .string b ∧ f b := by
  unfold vStr at h; split at h
  · exact ⟨_, rfl, h⟩
  · exact h.elim
theorem vPtr_ok {v : Value} {f : Option Addr → Prop} (h : vPtr v f) : ∃ b, v = .pointer b ∧ f b := by
  unfold vPtr at h; split at h
  · exact ⟨_, rfl, h⟩
  · exact h.elim
theorem vSl_ok {v : Value} {f : Option Addr → Nat → Nat → Prop} (h : vSl v f) : ∃ a l c, v = .slice a l c ∧ f a l c := by
  unfold vSl at h; split at h
  · exact ⟨_, _, _, rfl, h⟩
  · exact h.elim
theorem vMap_ok {v : Value} {f : Option Nat → Prop} (h : vMap v f) : ∃ b, v = .map b ∧ f b := by
  unfold vMap at h; split at h
  · exact ⟨_, rfl, h⟩
  · exact h.elim
theorem vFun_ok {v : Value} {f : FuncId → List Value → List Value → Prop} (h : vFun v f) : ∃ i a b, v = .func (.func i) a b ∧ f i a.toList b.toList := by
  unfold vFun at h; split at h
  · exact ⟨_, _, _, rfl, h⟩
  · exact h.elim
theorem vIfc_ok {v : Value} {p : Prop} {f : TypeId → Value → Prop} (h : vIfc v p f) : (v = .nilIface ∧ p) ∨ ∃ t x, v = .iface t x ∧ f t x := by
  unfold vIfc at h; split at h
  · exact .inl ⟨rfl, h⟩
  · exact .inr ⟨_, _, rfl, h⟩
  · exact h.elim
theorem vAgg_ok {v : Value} {f : List Value → Prop} (h : vAgg v f) : ∃ cs : Array Value, v = .agg cs ∧ f cs.toList := by
  unfold vAgg at h; split at h
  · exact ⟨_, rfl, h⟩
  · exact h.elim
theorem vTup_ok {v : Value} {f : List Value → Prop} (h : vTup v f) : ∃ cs : Array Value, v = .tuple cs ∧ f cs.toList := by
  unfold vTup at h; split at h
  · exact ⟨_, rfl, h⟩
  · exact h.elim
theorem lC_ok {l : List Value} {f : Value → List Value → Prop} (h : lC l f) : ∃ v r, l = v :: r ∧ f v r := by
  unfold lC at h; split at h
  · exact ⟨_, _, rfl, h⟩
  · exact h.elim
theorem lN_ok {l : List Value} {p : Prop} (h : lN l p) : l = [] ∧ p := by
  unfold lN at h; split at h
  · exact ⟨rfl, h⟩
  · exact h.elim
theorem aP_ok {p : Option Addr} {f : Nat → Nat → Prop} (h : aP p f) : ∃ i off, p = some ⟨i, off, none⟩ ∧ f i off := by
  unfold aP at h; split at h
  · exact ⟨_, _, rfl, h⟩
  · exact h.elim

section
variable (P : Program)

/-! A value of a type, taken apart as far as the walk wants it. -/
def castD (d : TypeDesc) (v : Value) (K : Value → Prop) : Prop :=
  match d with
  | .int k => vInt k v fun n => K (.int k n)
  | .bool => vBool v fun b => K (.bool b)
  | .string => vStr v fun s => K (.string s)
  | .pointer _ => vPtr v fun p => K (.pointer p)
  | .unsafePointer => vPtr v fun p => K (.pointer p)
  | .slice _ => vSl v fun a l c => K (.slice a l c)
  | .map _ _ => vMap v fun r => K (.map r)
  | .interface _ => vIfc v (K .nilIface) fun t x => K (.iface t x)
  | _ => K v
def descsL (f : TypeId → Option (List TypeDesc)) : List TypeId → Option (List TypeDesc)
  | [] => some []
  | t :: l => match f t, descsL f l with | some a, some b => some (a ++ b) | _, _ => none
def descs : Nat → TypeId → Option (List TypeDesc)
  | 0, _ => none
  | n + 1, t => match tiOf P t with
    | some ti => match ti.und with
      | .struct fs => descsL (descs n) (fs.toList.map Field.type)
      | .array len e => descsL (descs n) (List.replicate len e)
      | d => some [d]
    | none => none
def castL : List TypeDesc → List Value → (List Value → Prop) → Prop
  | [], l, K => lN l (K [])
  | d :: ds, l, K => lC l fun v l => castD d v fun v => castL ds l fun r => K (v :: r)
def castT (t : TypeId) (v : Value) (K : Value → Prop) : Prop :=
  match tiOf P t with
  | some ti => match ti.agg with
    | true => match descs P 8 t with
      | some ds => vAgg v fun l => castL ds l fun l => K (.agg ⟨l⟩)
      | none => False
    | false => castD ti.und v K
  | none => False
def castR (ts : List TypeId) (v : Value) (K : Value → Prop) : Prop :=
  match ts with
  | [] => K v
  | [t] => castT P t v K
  | ts => vTup v fun l => go ts l fun l => K (.tuple ⟨l⟩)
  where
  go : List TypeId → List Value → (List Value → Prop) → Prop
    | [], l, K => lN l (K [])
    | t :: ts, l, K => lC l fun v l => castT P t v fun v => go ts l fun r => K (v :: r)
def rdCast (h : AW) (i : Nat) : Nat → List TypeDesc → (List Value → Prop) → Prop
  | _, [], K => K []
  | off, d :: ds, K => oB (h.rd i off) fun v => castD d v fun v => rdCast h i (off + 1) ds fun r => K (v :: r)

def kLoad (h : AW) (t : TypeId) (a : Value) (K : Value → Prop) : Prop :=
  match tiOf P t with
  | some ti => vPtr a fun p => aP p fun i off => match ti.agg with
    | true => match descs P 8 t with
      | some ds => match Nat.beq ds.length ti.size with
        | true => rdCast h i off ds fun l => K (.agg ⟨l⟩)
        | false => False
      | none => False
    | false => oB (h.rd i off) fun v => castD ti.und v K
  | none => False

def kNil (v : Value) (K : Value → Prop) : Prop :=
  match v with
  | .pointer p => aP p fun i off => K (ptr i off)
  | v => oB (nilCheckV v) fun v => K v

def isNilC : Operand → Bool
  | .const v => match v with
    | .pointer none | .slice none _ _ | .map none | .nilFunc | .nilIface => true
    | _ => false
  | _ => false

def cellB : TypeDesc → Value → Value → Option Bool
  | .bool, .bool a, .bool b => some (a == b)
  | .int _, .int k a, .int k' b => match decide (k = k') with | true => some (a == b) | false => none
  | .string, .string a, .string b => some (bEq a b)
  | _, _, _ => none
def fieldsB : List Field → List Value → List Value → Option Bool
  | [], [], [] => some true
  | f :: fs, x :: xs, y :: ys => match P.underlying f.type with
    | some d => match cellB d x y, fieldsB fs xs ys with
      | some a, some b => some (a && b)
      | _, _ => none
    | none => none
  | _, _, _ => none
def eqNil (d : TypeDesc) (w : Value) (v : Value) (K : Bool → Prop) : Prop :=
  match d, w with
  | .pointer _, .pointer none => vPtr v fun p => K p.isNone
  | .slice _, .slice none _ _ => vSl v fun a _ _ => K a.isNone
  | .map _ _, .map none => vMap v fun r => K r.isNone
  | .interface _, .nilIface => oB (nilI v) K
  | .func _ _ _, .nilFunc => oB (nilF v) K
  | _, _ => False
def kEq (t : TypeId) (x y : Operand) (vx vy : Value) (K : Bool → Prop) : Prop :=
  match tiOf P t with
  | some ti => match isNilC y with
    | true => eqNil ti.und vy vx K
    | false => match isNilC x with
      | true => eqNil ti.und vx vy K
      | false => match ti.und with
        | .bool => vBool vx fun a => vBool vy fun b => K (a == b)
        | .struct fs => match plainEq P t fs with
          | true => vAgg vx fun xs => vAgg vy fun ys => match fieldsB P fs.toList xs ys with
            | some b => K b
            | none => False
          | false => False
        | _ => oB (eqV P t (isConst x || isConst y) vx vy) K
  | none => False

def kInt (op : BinOp) (k : IntKind) (x y : Int) (K : Value → Prop) : Prop :=
  match op with
  | .quo => bC (decide (y = 0)) False (K (.int k (k.wrap (x.tdiv y))))
  | .rem => bC (decide (y = 0)) False (K (.int k (x.tmod y)))
  | .eql => K (.bool (x == y))
  | .neq => K (.bool (x != y))
  | .add => K (.int k (k.wrap (x + y)))
  | .sub => K (.int k (k.wrap (x - y)))
  | .mul => K (.int k (k.wrap (x * y)))
  | .lss => K (.bool (x < y))
  | .leq => K (.bool (x ≤ y))
  | .gtr => K (.bool (x > y))
  | .geq => K (.bool (x ≥ y))
  | op => match intBin op k x y with | some v => K v | none => False
def kStr (op : BinOp) (x y : ByteArray) (K : Value → Prop) : Prop :=
  match op with
  | .add => bC (Nat.ble (x.size + y.size) 9223372036854775807) (K (.string (x ++ y))) False
  | .eql => K (.bool (bEq x y))
  | .neq => K (.bool !(bEq x y))
  | op => match strBin op x y with | some v => K v | none => False
def kBin0 (op : BinOp) (t : TypeId) (x y : Operand) (vx vy : Value) (K : Value → Prop) : Prop :=
  match vx, vy with
  | .int k a, .int k' b => match op with
    | .shl => bC (decide (b < 0)) False (K (.int k (k.wrap (a * 2 ^ (min b.toNat k.bits)))))
    | .shr => bC (decide (b < 0)) False (K (.int k (a.fdiv (2 ^ (min b.toNat k.bits)))))
    | op => match decide (k = k') with | true => kInt op k a b K | false => False
  | .string a, .string b => kStr op a b K
  | vx, vy => match op with
    | .eql => kEq P t x y vx vy fun b => K (.bool b)
    | .neq => kEq P t x y vx vy fun b => K (.bool !b)
    | _ => False
/-- An interface may be asked whether it is nil, though nothing else is known of it. -/
def kBin (op : BinOp) (t : TypeId) (x y : Operand) (vx vy : Value) (K : Value → Prop) : Prop :=
  match isNilC y, vy with
  | true, .nilIface => (match op with
    | .eql => kEq P t x y vx .nilIface fun b => K (.bool b)
    | .neq => kEq P t x y vx .nilIface fun b => K (.bool !b)
    | _ => False)
  | true, .nilFunc => (match op with
    | .eql => kEq P t x y vx .nilFunc fun b => K (.bool b)
    | .neq => kEq P t x y vx .nilFunc fun b => K (.bool !b)
    | _ => False)
  | _, vy => kBin0 P op t x y vx vy K

def kConv (h : AW) (s d : TypeId) (x : Value) (K : Value → AW → Prop) : Prop :=
  match tiOf P s, tiOf P d with
  | some si, some di => match di.und with
    | .int k => (match x with | .int _ n => K (.int k (k.wrap n)) h | _ => False)
    | .string => (match x with
      | .int _ n => K (.string (Utf8.encode n)) h
      | .string b => K (.string b) h
      | .slice a len _ => (match si.und with
        | .slice e => match tiOf P e with
          | some te => match te.und with
            | .int .u8 => oB (h.bytes a len) fun s => K (.string s) h
            | _ => False
          | none => False
        | _ => False)
      | _ => False)
    | .slice _ => oP (convA P h s d x) fun v h => vSl v fun a l c => K (.slice a l c) h
    | .unsafePointer => (match x with
      | .pointer p => oP (convA P h s d (.pointer p)) fun v h => vPtr v fun p => K (.pointer p) h
      | _ => False)
    | .pointer _ => (match x with
      | .pointer p => oP (convA P h s d (.pointer p)) fun v h => vPtr v fun p => K (.pointer p) h
      | _ => False)
    | _ => False
  | _, _ => False

def kBnd (x : Option Value) (n dflt : Nat) (K : Nat → Prop) : Prop :=
  match x with
  | none => K dflt
  | some v => match v with
    | .int _ z => oB (natBnd z n) K
    | _ => False
def kSlice (h : AW) (t : TypeId) (x : Value) (lo hi : Option Value) (K : Value → Prop) : Prop :=
  match tiOf P t with
  | some ti => match ti.und with
    | .string => vStr x fun s => kBnd hi s.size s.size fun hi => kBnd lo hi 0 fun lo => K (.string (bSub s lo hi))
    | .slice elem => match tiOf P elem with
      | some te => vSl x fun a len cap => kBnd hi cap len fun hi => kBnd lo hi 0 fun l => bC (Nat.ble hi cap) (oB (shO a (l * te.size)) fun a => K (.slice a (hi - l) (cap - l))) False
      | none => False
    | _ => oB (sliceQ P h t x lo hi) fun v => vSl v fun a l c => K (.slice a l c)
  | none => False

def kFieldAddr (t : TypeId) (x : Value) (f : Nat) (K : Value → Prop) : Prop :=
  match tiOf P t with
  | some ti => match ti.und with
    | .struct fs => match fs[f]? with
      | some fd => match tiOf P fd.type with
        | some tf => match Nat.beq tf.size 0 with
          | true => False
          | false => vPtr x fun p => aP p fun b off => K (ptr b (off + fd.offset))
        | none => False
      | none => False
    | _ => False
  | none => False

def kIndexAddr (t : TypeId) (x i : Value) (K : Value → Prop) : Prop :=
  match tiOf P t, i with
  | some ti, .int _ z => match ti.und with
    | .array len elem => match tiOf P elem with
      | some te => vPtr x fun p => aP p fun b off => oB (natIdx z len) fun j => K (ptr b (off + j * te.size))
      | none => False
    | .slice elem => match tiOf P elem with
      | some te => vSl x fun a len _ => aP a fun b off => oB (natIdx z len) fun j => K (ptr b (off + j * te.size))
      | none => False
    | _ => False
  | _, _ => False
def kIndex (t : TypeId) (x i : Value) (K : Value → Prop) : Prop :=
  match tiOf P t, i with
  | some ti, .int _ z => match ti.und with
    | .string => vStr x fun s => oB (natIdx z s.size) fun j => oB (bAt s j) fun b => K (.int .u8 b)
    | .array _ e => oB (indexV P t x i) fun v => castT P e v K
    | _ => False
  | _, _ => False
def kLookup (h : AW) (t : TypeId) (m k : Value) (ok : Bool) (K : Value → Prop) : Prop :=
  match tiOf P t with
  | some ti => match ti.und with
    | .map kt et => match tiOf P kt, tiOf P et with
      | some tk, some te => match keyKind tk.und, te.zero with
        | true, some z => vMap m fun r => oB (h.mapL r) fun es => oB (look tk.und k es) fun w =>
          castT P et (w.getD z) fun v => match ok with
            | true => K (.tuple ⟨[v, .bool w.isSome]⟩)
            | false => K v
        | _, _ => False
      | _, _ => False
    | _ => False
  | none => False

def kQ (o : Op) (F : Fr) (h : AW) (K : Value → Prop) : Prop :=
  match o with
  | .move x => K (F.ev x)
  | .assign x => K (F.ev x)
  | .pick c a b => vBool (F.ev c) fun x => bC x (K (F.ev a)) (K (F.ev b))
  | .build t parts => match buildV P t (parts.toList.map fun p => (p.1, F.ev p.2)) with | some v => K v | none => False
  | .load t a => kLoad P h t (F.ev a) K
  | .nilCheck x => kNil (F.ev x) K
  | .binOp op t x y _ => kBin P op t x y (F.ev x) (F.ev y) K
  | .unOp op _ x => match unV op (F.ev x) with | some v => K v | none => False
  | .makeInterface t x => match tiOf P t with
    | some ti => (match ti.und with | .interface _ => False | _ => K (.iface t (F.ev x)))
    | none => False
  | .makeFunc fn first captured => K (.func fn ⟨vals F first⟩ ⟨vals F captured⟩)
  | .slice t x lo hi none => kSlice P h t (F.ev x) (lo.map F.ev) (hi.map F.ev) K
  | .fieldAddr t x f => kFieldAddr P t (F.ev x) f K
  | .field t x f => match fieldV P t (F.ev x) f with | some v => K v | none => False
  | .indexAddr t x i => kIndexAddr P t (F.ev x) (F.ev i) K
  | .index t x i => kIndex P t (F.ev x) (F.ev i) K
  | .lookup t m k ok => kLookup P h t (F.ev m) (F.ev k) ok K
  | .extract x i => match F.ev x with | .tuple vs => (match vs.toList[i]? with | some v => K v | none => False) | _ => False
  | _ => False

def kLen (h : AW) (t : TypeId) (x : Value) (K : Value → Prop) : Prop :=
  match tiOf P t with
  | some ti => match ti.und with
    | .string => vStr x fun s => K (goInt s.size)
    | .slice _ => vSl x fun _ n _ => K (goInt n)
    | .map _ _ => vMap x fun r => oB (h.mapL r) fun es => K (goInt es.length)
    | .array n _ => K (goInt n)
    | _ => oB (lenB P h #[t] [x]) fun v => vInt .i64 v fun n => K (.int .i64 n)
  | none => False
def kBuiltin (b : Builtin) (ts : Array TypeId) (args : List Value) (h : AW) (K : Value → AW → Prop) : Prop :=
  match b with
  | .len => match ts.toList, args with
    | [t], [x] => kLen P h t x fun v => K v h
    | _, _ => False
  | .cap => oB (capB P h ts args) fun v => vInt .i64 v fun n => K (.int .i64 n) h
  | .min => match args with | x :: l => (match minL x l with | some v => K v h | none => False) | [] => False
  | .max => match args with | x :: l => (match maxL x l with | some v => K v h | none => False) | [] => False
  | .append => oP (appendB P h ts args) fun v h => vSl v fun a l c => K (.slice a l c) h
  | .copy => oP (copyB P h ts args) fun v h => vInt .i64 v fun n => K (.int .i64 n) h
  | .delete => oP (deleteB P h ts args) K
  | .clear => oP (clearB P h ts args) K
  | .unsafeString => oP (ustrB P h ts args) fun v h => vStr v fun s => K (.string s) h
  | .unsafeSliceData => match args with
    | [x] => vSl x fun a l c => oB (sdataB [.slice a l c]) fun v => vPtr v fun p => K (.pointer p) h
    | _ => False
  | _ => False

def AW.iterAt (h : AW) (i off : Nat) : Bool := Nat.beq off 0 && (h.its.get? i).isSome
def kA (o : Op) (F : Fr) (h : AW) (K : Value → AW → Prop) : Prop :=
  match o with
  | .alloc t => match tiOf P t with
    | some ti => match ti.zero with
      | some z => match allOne z.cells.toList with
        | true => (match selfT P t with
          | true => K (ptr h.next 0) ((h.addVar z.cells.toList).tag h.next t)
          | false => K (ptr h.next 0) (h.addVar z.cells.toList))
        | false => False
      | none => False
    | none => False
  | .box _ x => match allOne (F.ev x).cells.toList with
    | true => K (ptr h.next 0) (h.addVar (F.ev x).cells.toList)
    | false => False
  | .buildSlice t len parts => match tiOf P t with
    | some ti => match ti.und with
      | .slice elem => match tiOf P elem with
        | some te => match te.zero, Nat.ble (len * te.size) 16777216 with
          | some z, true => match Nat.beq z.cells.size te.size with
            | true => match Instr.fill (fun i => some (i * te.size, te.size)) ⟨rep z.cells.toList len⟩ (parts.toList.map fun p => (p.1, F.ev p.2)) with
              | some cs => match allOne cs.toList with
                | true => K (.slice (some ⟨h.next, 0, none⟩) len len) (h.addVar cs.toList)
                | false => False
              | none => False
            | false => False
          | _, _ => False
        | none => False
      | _ => False
    | none => False
  | .store t a x => match tiOf P t with
    | some ti => vPtr (F.ev a) fun p => aP p fun i off => match F.ev x with
      | .agg cs => match Nat.beq cs.size ti.size with
        | true => oB (h.wrL i off cs.toList) fun h => K undef h
        | false => False
      | v => match Nat.beq ti.size 1 with
        | true => oB (h.wr i off v) fun h => K undef h
        | false => False
    | none => False
  | .convert s d x => kConv P h s d (F.ev x) K
  | .makeMap _ none => K (.map (some h.next)) h.addMap
  | .makeMap t (some x) => oP (opA P F h (.makeMap t (some x))) fun v h => vMap v fun r => K (.map r) h
  | .makeSlice t l c => oP (makeSliceV P h t (F.ev l) (F.ev c)) fun v h => vSl v fun a l c => K (.slice a l c) h
  | .slice t x lo hi (some mx) => oP (sliceA P h t (F.ev x) (lo.map F.ev) (hi.map F.ev) (F.ev mx)) fun v h => vSl v fun a l c => K (.slice a l c) h
  | .mapUpdate t m k v => oB (mapUpdV P h t (F.ev m) (F.ev k) (F.ev v)) fun h => K undef h
  | .insert t m k v => oB (mapUpdV P h t (F.ev m) (F.ev k) (F.ev v)) fun h => K undef h
  | .call { callee := .builtin b, args, argTypes } => kBuiltin P b argTypes (vals F args) h K
  | .range t x => match tiOf P t with
    | some ti => match ti.und with
      | .map _ _ => vMap (F.ev x) fun r => bC (Option.isNone r) (K (ptr h.next 0) (AW.newIter h)) False
      | _ => False
    | none => False
  | .next it false => vPtr (F.ev it) fun p => aP p fun i off => bC (AW.iterAt h i off) (K (.tuple #[.bool false]) h) False
  | o => kQ P o F h fun v => K v h
end
end Go.Abs
end

section
/- Walks, second part: the words are right. -/
namespace Go.Abs
variable {P : Program} {F : Fr} {h : AW}

theorem castD_ok {d : TypeDesc} {v : Value} {K : Value → Prop} (H : castD d v K) : K v := by
  unfold castD at H
  split at H
  · obtain ⟨n, rfl, x⟩ := vInt_ok H; exact x
  · obtain ⟨n, rfl, x⟩ := vBool_ok H; exact x
  · obtain ⟨n, rfl, x⟩ := vStr_ok H; exact x
  · obtain ⟨n, rfl, x⟩ := vPtr_ok H; exact x
  · obtain ⟨n, rfl, x⟩ := vPtr_ok H; exact x
  · obtain ⟨a, l, c, rfl, x⟩ := vSl_ok H; exact x
  · obtain ⟨n, rfl, x⟩ := vMap_ok H; exact x
  · rcases vIfc_ok H with ⟨rfl, x⟩ | ⟨t, y, rfl, x⟩ <;> exact x
  · exact H
theorem castL_ok : ∀ {ds : List TypeDesc} {l : List Value} {K : List Value → Prop}, castL ds l K → K l
  | [], l, K, H => by
    obtain ⟨rfl, x⟩ := lN_ok H
    exact x
  | d :: ds, l, K, H => by
    obtain ⟨v, r, rfl, x⟩ := lC_ok H
    exact castL_ok (K := fun r => K (v :: r)) (castD_ok (K := fun v => castL ds r fun r => K (v :: r)) x)
theorem castT_ok {t : TypeId} {v : Value} {K : Value → Prop} (H : castT P t v K) : K v := by
  unfold castT at H
  split at H
  · split at H
    · split at H
      · obtain ⟨cs, rfl, x⟩ := vAgg_ok H
        exact castL_ok x
      · exact H.elim
    · exact castD_ok H
  · exact H.elim
theorem castRgo_ok : ∀ {ts : List TypeId} {l : List Value} {K : List Value → Prop}, castR.go P ts l K → K l
  | [], l, K, H => by
    obtain ⟨rfl, x⟩ := lN_ok H
    exact x
  | d :: ds, l, K, H => by
    obtain ⟨v, r, rfl, x⟩ := lC_ok H
    exact castRgo_ok (K := fun r => K (v :: r)) (castT_ok (K := fun v => castR.go P ds r fun r => K (v :: r)) x)
theorem rdCast_ok {i : Nat} : ∀ {ds : List TypeDesc} {off : Nat} {K : List Value → Prop}, rdCast h i off ds K → ∃ l, h.rdN i off ds.length = some l ∧ K l
  | [], off, K, H => ⟨[], rfl, H⟩
  | d :: ds, off, K, H => by
    obtain ⟨v, e, x⟩ := oB_ok H
    obtain ⟨l, e', x⟩ := rdCast_ok (castD_ok x)
    refine ⟨v :: l, ?_, x⟩
    simp only [List.length_cons, AW.rdN, e, e']
theorem kLoad_ok {t : TypeId} {a : Value} {K : Value → Prop} (H : kLoad P h t a K) : ∃ v, loadV P h t a = some v ∧ K v := by
  unfold kLoad at H
  split at H
  · rename_i ti ht
    obtain ⟨p, rfl, H⟩ := vPtr_ok H
    obtain ⟨i, off, rfl, H⟩ := aP_ok H
    simp only [loadV, ht]
    split at H
    · rename_i ha
      simp only [ha]
      split at H
      · split at H
        · rename_i hl
          obtain ⟨l, e, x⟩ := rdCast_ok H
          rw [Nat.eq_of_beq_eq_true hl] at e
          rw [e]
          exact ⟨_, rfl, x⟩
        · exact H.elim
      · exact H.elim
    · rename_i ha
      simp only [ha]
      obtain ⟨v, e, x⟩ := oB_ok H
      exact ⟨v, e, castD_ok x⟩
  · exact H.elim
theorem kNil_ok {v : Value} {K : Value → Prop} (H : kNil v K) : ∃ v', nilCheckV v = some v' ∧ K v' := by
  unfold kNil at H
  split at H
  · obtain ⟨i, off, rfl, H⟩ := aP_ok H
    exact ⟨_, rfl, H⟩
  · exact oB_ok H
theorem cellB_ok {d : TypeDesc} {x y : Value} {b : Bool} (H : cellB d x y = some b) : cellFits d x = true ∧ cellEq x y = some b := by
  unfold cellB at H
  split at H
  · exact ⟨rfl, H⟩
  · split at H
    · rename_i e
      have := of_decide_eq_true e; subst this
      simp only [cellFits, cellEq, if_pos]
      exact ⟨trivial, H⟩
    · cases H
  · exact ⟨rfl, H⟩
  · cases H
theorem fieldsB_ok : ∀ {fs : List Field} {xs ys : List Value} {b : Bool}, fieldsB P fs xs ys = some b → fieldsEq P fs xs ys = some b
  | [], [], [], b, H => H
  | f :: fs, x :: xs, y :: ys, b, H => by
    simp only [fieldsB] at H
    simp only [fieldsEq]
    split at H
    · rename_i d hd
      rw [hd]; simp only
      split at H
      · rename_i a c ha hc
        obtain ⟨h1, h2⟩ := cellB_ok ha
        simp only [h1, h2]
        have := fieldsB_ok hc
        cases a with
        | true => simp only; rw [this]; simpa using H
        | false => simpa using H
      · cases H
    · cases H
  | [], [], _ :: _, b, H => by simp [fieldsB] at H
  | [], _ :: _, _, b, H => by simp [fieldsB] at H
  | _ :: _, [], _, b, H => by simp [fieldsB] at H
  | _ :: _, _ :: _, [], b, H => by simp [fieldsB] at H
theorem eqNil_ok {t : TypeId} {ti : TI} (ht : tiOf P t = some ti) {v w : Value} {K : Bool → Prop} (H : eqNil ti.und w v K) :
    ∃ b, eqV P t true w v = some b ∧ eqV P t true v w = some b ∧ K b := by
  unfold eqNil at H
  split at H
  · rename_i e hu
    obtain ⟨p, rfl, x⟩ := vPtr_ok H
    refine ⟨_, ?_, ?_, x⟩
    · unfold eqV; rw [ht]; simp only [hu]
    · unfold eqV; rw [ht]; simp only [hu]; cases p <;> rfl
  · rename_i e l c hu
    obtain ⟨p, l', c', rfl, x⟩ := vSl_ok H
    refine ⟨_, ?_, ?_, x⟩
    · unfold eqV; rw [ht]; simp only [hu]
    · unfold eqV; rw [ht]; simp only [hu]; cases p <;> rfl
  · rename_i e e' hu
    obtain ⟨p, rfl, x⟩ := vMap_ok H
    refine ⟨_, ?_, ?_, x⟩
    · unfold eqV; rw [ht]; simp only [hu]
    · unfold eqV; rw [ht]; simp only [hu]; cases p <;> rfl
  · rename_i e hu
    obtain ⟨b, e', x⟩ := oB_ok H
    refine ⟨b, ?_, ?_, x⟩ <;> (unfold eqV; rw [ht]; simp only [hu]; unfold nilI at e'; split at e' <;> first | exact e' | cases e')
  · rename_i e1 e2 e3 hu
    obtain ⟨b, e', x⟩ := oB_ok H
    refine ⟨b, ?_, ?_, x⟩ <;> (unfold eqV; rw [ht]; simp only [hu]; unfold nilF at e'; split at e' <;> first | exact e' | cases e')
  · exact H.elim
theorem isNilC_const {x : Operand} (h : isNilC x = true) : isConst x = true := by
  cases x <;> simp [isNilC] at h <;> rfl
theorem kEq_ok {t : TypeId} {x y : Operand} {vx vy : Value} {K : Bool → Prop} (H : kEq P t x y vx vy K) : ∃ b, eqV P t (isConst x || isConst y) vx vy = some b ∧ K b := by
  unfold kEq at H
  split at H
  · rename_i ti ht
    split at H
    · rename_i hy
      obtain ⟨b, _, e, k⟩ := eqNil_ok ht H
      rw [isNilC_const hy, Bool.or_true]
      exact ⟨b, e, k⟩
    · split at H
      · rename_i hx
        obtain ⟨b, e, _, k⟩ := eqNil_ok ht H
        rw [isNilC_const hx, Bool.true_or]
        exact ⟨b, e, k⟩
      · split at H
        · rename_i hu
          obtain ⟨a, rfl, H1⟩ := vBool_ok H
          obtain ⟨b, rfl, H2⟩ := vBool_ok H1
          refine ⟨_, ?_, H2⟩
          unfold eqV; rw [ht]; simp only [hu]
        · rename_i fs hu
          split at H
          · rename_i hp
            obtain ⟨xs, rfl, H1⟩ := vAgg_ok H
            obtain ⟨ys, rfl, H2⟩ := vAgg_ok H1
            split at H2
            · rename_i b hb
              refine ⟨b, ?_, H2⟩
              unfold eqV; rw [ht]; simp only [hu, hp]
              exact fieldsB_ok hb
            · exact H2.elim
          · exact H.elim
        · exact oB_ok H
  · exact H.elim
theorem kInt_ok {op : BinOp} {k : IntKind} {x y : Int} {K : Value → Prop} (H : kInt op k x y K) : ∃ v, intBin op k x y = some v ∧ K v := by
  unfold kInt at H
  split at H
  · rcases bC_ok H with ⟨_, x⟩ | ⟨e, x⟩
    · exact x.elim
    · exact ⟨_, by simp only [intBin]; rw [if_neg (of_decide_eq_false e)], x⟩
  · rcases bC_ok H with ⟨_, x⟩ | ⟨e, x⟩
    · exact x.elim
    · exact ⟨_, by simp only [intBin]; rw [if_neg (of_decide_eq_false e)], x⟩
  all_goals first | exact ⟨_, rfl, H⟩ | skip
  split at H
  · rename_i v hv
    exact ⟨v, hv, H⟩
  · exact H.elim
theorem kStr_ok {op : BinOp} {x y : ByteArray} {K : Value → Prop} (H : kStr op x y K) : ∃ v, strBin op x y = some v ∧ K v := by
  unfold kStr at H
  split at H
  · rcases bC_ok H with ⟨e, x⟩ | ⟨e, x⟩
    · exact ⟨_, by simp only [strBin]; rw [e], x⟩
    · exact x.elim
  all_goals first | exact ⟨_, rfl, H⟩ | skip
  split at H
  · rename_i v hv
    exact ⟨v, hv, H⟩
  · exact H.elim
theorem kBin0_ok {op : BinOp} {t : TypeId} {x y : Operand} {vx vy : Value} {K : Value → Prop} (H : kBin0 P op t x y vx vy K) : ∃ v, binV P op t (isConst x || isConst y) vx vy = some v ∧ K v := by
  unfold kBin0 at H
  split at H
  · split at H
    · rcases bC_ok H with ⟨_, x⟩ | ⟨e, x⟩
      · exact x.elim
      · exact ⟨_, by simp only [binV]; rw [if_neg (of_decide_eq_false e)], x⟩
    · rcases bC_ok H with ⟨_, x⟩ | ⟨e, x⟩
      · exact x.elim
      · exact ⟨_, by simp only [binV]; rw [if_neg (of_decide_eq_false e)], x⟩
    · rename_i h1 h2
      split at H
      · rename_i e
        have := of_decide_eq_true e
        obtain ⟨v, hv, x⟩ := kInt_ok H
        refine ⟨v, ?_, x⟩
        cases op <;> first | (exact absurd rfl h1) | (exact absurd rfl h2) | (simp only [binV]; rw [if_pos this]; exact hv)
      · exact H.elim
  · obtain ⟨v, hv, x⟩ := kStr_ok H
    refine ⟨v, ?_, x⟩
    cases op <;> first | exact hv | (simp [strBin] at hv)
  · rename_i h1 h2
    split at H
    · obtain ⟨b, hb, x⟩ := kEq_ok H
      refine ⟨_, ?_, x⟩
      have : ∀ lit, binV P .eql t lit vx vy = (match eqV P t lit vx vy with | some b => some (.bool b) | none => none) := by
        intro lit
        cases vx <;> cases vy <;> first | rfl | exact (h1 _ _ _ _ rfl rfl).elim | exact (h2 _ _ rfl rfl).elim
      rw [this, hb]
    · obtain ⟨b, hb, x⟩ := kEq_ok H
      refine ⟨_, ?_, x⟩
      have : ∀ lit, binV P .neq t lit vx vy = (match eqV P t lit vx vy with | some b => some (.bool !b) | none => none) := by
        intro lit
        cases vx <;> cases vy <;> first | rfl | exact (h1 _ _ _ _ rfl rfl).elim | exact (h2 _ _ rfl rfl).elim
      rw [this, hb]
    · exact H.elim
theorem kBin_ok {op : BinOp} {t : TypeId} {x y : Operand} {vx vy : Value} {K : Value → Prop} (H : kBin P op t x y vx vy K) : ∃ v, binV P op t (isConst x || isConst y) vx vy = some v ∧ K v := by
  unfold kBin at H
  split at H
  · split at H
    · obtain ⟨b, hb, k⟩ := kEq_ok H
      refine ⟨_, ?_, k⟩
      have : ∀ lit, binV P .eql t lit vx .nilIface = (match eqV P t lit vx .nilIface with | some b => some (.bool b) | none => none) := by
        intro lit
        cases vx <;> rfl
      rw [this, hb]
    · obtain ⟨b, hb, k⟩ := kEq_ok H
      refine ⟨_, ?_, k⟩
      have : ∀ lit, binV P .neq t lit vx .nilIface = (match eqV P t lit vx .nilIface with | some b => some (.bool !b) | none => none) := by
        intro lit
        cases vx <;> rfl
      rw [this, hb]
    · exact H.elim
  · split at H
    · obtain ⟨b, hb, k⟩ := kEq_ok H
      refine ⟨_, ?_, k⟩
      have : ∀ lit, binV P .eql t lit vx .nilFunc = (match eqV P t lit vx .nilFunc with | some b => some (.bool b) | none => none) := by
        intro lit
        cases vx <;> rfl
      rw [this, hb]
    · obtain ⟨b, hb, k⟩ := kEq_ok H
      refine ⟨_, ?_, k⟩
      have : ∀ lit, binV P .neq t lit vx .nilFunc = (match eqV P t lit vx .nilFunc with | some b => some (.bool !b) | none => none) := by
        intro lit
        cases vx <;> rfl
      rw [this, hb]
    · exact H.elim
  · exact kBin0_ok H
theorem natIdx_idx {k : IntKind} {z : Int} {n : Nat} : idx (.int k z) n = natIdx z n := by
  unfold idx natIdx
  cases z <;> rfl
theorem natBnd_bnd {k : IntKind} {z : Int} {n : Nat} : bnd (.int k z) n = natBnd z n := by
  unfold bnd natBnd
  cases z <;> rfl
theorem kBnd_ok {x : Option Value} {n d : Nat} {K : Nat → Prop} (H : kBnd x n d K) : ∃ m, bndO x n d = some m ∧ K m := by
  unfold kBnd at H
  split at H
  · exact ⟨_, rfl, H⟩
  · split at H
    · rename_i k z
      obtain ⟨m, e, x⟩ := oB_ok H
      exact ⟨m, by simp only [bndO]; rw [natBnd_bnd, e], x⟩
    · exact H.elim
theorem bytes_ok {s d : TypeId} {a : Option Addr} {len c : Nat} {si di te : TI} {e : TypeId} {b : ByteArray} (hs : tiOf P s = some si) (hd : tiOf P d = some di) (hdu : di.und = .string) (hsu : si.und = .slice e) (he : tiOf P e = some te) (hte : te.und = .int .u8)
    (hb : h.bytes a len = some b) : convQ P h s d (.slice a len c) = some (.string b) := by
  unfold convQ
  rw [hs, hd]
  simp only [hdu]
  unfold AW.bytes at hb
  split at hb
  · simp only [hsu, he, hte]; cases hb; rfl
  · simp only [hsu, he, hte]
    split at hb
    · rename_i l hl
      rw [hl]; simp only
      split at hb
      · rename_i bs hbs
        cases hb
        rw [hbs]
      · cases hb
    · cases hb
  · cases hb
theorem kConv_ok {s d : TypeId} {x : Value} {K : Value → AW → Prop} (H : kConv P h s d x K) : ∃ v h', (match convQ P h s d x with | some v => some (v, h) | none => convA P h s d x) = some (v, h') ∧ K v h' := by
  unfold kConv at H
  split at H
  · rename_i si di hs hd
    split at H
    · rename_i k hu
      split at H
      · refine ⟨_, _, ?_, H⟩
        unfold convQ; rw [hs, hd]; simp only [hu]
      · exact H.elim
    · rename_i hu
      split at H
      · refine ⟨_, _, ?_, H⟩
        unfold convQ; rw [hs, hd]; simp only [hu]
      · refine ⟨_, _, ?_, H⟩
        unfold convQ; rw [hs, hd]; simp only [hu]
      · split at H
        · rename_i e hsu
          split at H
          · rename_i te he
            split at H
            · rename_i hte
              obtain ⟨b, hb, x⟩ := oB_ok H
              refine ⟨_, _, ?_, x⟩
              rw [bytes_ok hs hd hu hsu he hte hb]
            · exact H.elim
          · exact H.elim
        · exact H.elim
      · exact H.elim
    · rename_i e hu
      obtain ⟨v, h', e', y⟩ := oP_ok H
      obtain ⟨a, l, c, rfl, y⟩ := vSl_ok y
      refine ⟨_, _, ?_, y⟩
      have : convQ P h s d x = none := by unfold convQ; rw [hs, hd]; simp only [hu]
      rw [this]
      exact e'
    · rename_i hu
      split at H
      · obtain ⟨v, h', e', y⟩ := oP_ok H
        obtain ⟨p, rfl, y⟩ := vPtr_ok y
        refine ⟨_, _, ?_, y⟩
        have : ∀ p, convQ P h s d (.pointer p) = none := fun p => by unfold convQ; rw [hs, hd]; simp only [hu]
        rw [this]
        exact e'
      · exact H.elim
    · rename_i u hu
      split at H
      · obtain ⟨v, h', e', y⟩ := oP_ok H
        obtain ⟨p, rfl, y⟩ := vPtr_ok y
        refine ⟨_, _, ?_, y⟩
        have : ∀ p, convQ P h s d (.pointer p) = none := fun p => by unfold convQ; rw [hs, hd]; simp only [hu]
        rw [this]
        exact e'
      · exact H.elim
    · exact H.elim
  · exact H.elim
end Go.Abs
end

section
/- Walks, third part: operations. -/
namespace Go.Abs
variable {P : Program} {F : Fr} {h : AW}

theorem kSlice_ok {t : TypeId} {x : Value} {lo hi : Option Value} {K : Value → Prop} (H : kSlice P h t x lo hi K) : ∃ v, sliceQ P h t x lo hi = some v ∧ K v := by
  unfold kSlice at H
  split at H
  · rename_i ti ht
    split at H
    · rename_i hu
      have H' := vStr_ok H; clear H; obtain ⟨s, rfl, H⟩ := H'
      have H' := kBnd_ok H; clear H; obtain ⟨b, e, H⟩ := H'
      have H' := kBnd_ok H; clear H; obtain ⟨a, e', H⟩ := H'
      refine ⟨_, ?_, H⟩
      unfold sliceQ; rw [ht]; simp only [hu, e, e']; rfl
    · rename_i el hu
      split at H
      · rename_i te he
        have H' := vSl_ok H; clear H; obtain ⟨a, len, cap, rfl, H⟩ := H'
        have H' := kBnd_ok H; clear H; obtain ⟨b, e, H⟩ := H'
        have H' := kBnd_ok H; clear H; obtain ⟨c, e', H⟩ := H'
        rcases bC_ok H with ⟨e2, H⟩ | ⟨_, H⟩
        · have H' := oB_ok H; clear H; obtain ⟨a', ea, H⟩ := H'
          refine ⟨_, ?_, H⟩
          unfold sliceQ; rw [ht]; simp only [hu, e, e', he, e2]
          unfold shO at ea
          split at ea
          · cases ea; rfl
          · cases ea; rfl
          · cases ea
        · exact H.elim
      · exact H.elim
    · have H' := oB_ok H; clear H; obtain ⟨v, e, H⟩ := H'
      have H' := vSl_ok H; clear H; obtain ⟨a, l, c, rfl, H⟩ := H'
      exact ⟨_, e, H⟩
  · exact H.elim
theorem kFieldAddr_ok {t : TypeId} {x : Value} {f : Nat} {K : Value → Prop} (H : kFieldAddr P t x f K) : ∃ v, fieldAddrV P t x f = some v ∧ K v := by
  unfold kFieldAddr at H
  split at H
  · rename_i ti ht
    split at H
    · rename_i fs hu
      split at H
      · rename_i fd hf
        split at H
        · rename_i tf htf
          split at H
          · exact H.elim
          · rename_i hz
            have H' := vPtr_ok H; clear H; obtain ⟨p, rfl, H⟩ := H'
            have H' := aP_ok H; clear H; obtain ⟨i, off, rfl, H⟩ := H'
            refine ⟨_, ?_, H⟩
            unfold fieldAddrV; rw [ht]; simp only [hu, hf, htf, hz]
        · exact H.elim
      · exact H.elim
    · exact H.elim
  · exact H.elim
theorem kIndexAddr_ok {t : TypeId} {x i : Value} {K : Value → Prop} (H : kIndexAddr P t x i K) : ∃ v, indexAddrV P t x i = some v ∧ K v := by
  unfold kIndexAddr at H
  split at H
  · rename_i ti k z ht
    split at H
    · rename_i len el hu
      split at H
      · rename_i te he
        have H' := vPtr_ok H; clear H; obtain ⟨p, rfl, H⟩ := H'
        have H' := aP_ok H; clear H; obtain ⟨i, off, rfl, H⟩ := H'
        have H' := oB_ok H; clear H; obtain ⟨j, e, H⟩ := H'
        refine ⟨_, ?_, H⟩
        unfold indexAddrV; rw [ht]; simp only [hu, natIdx_idx, e, he]
      · exact H.elim
    · rename_i el hu
      split at H
      · rename_i te he
        have H' := vSl_ok H; clear H; obtain ⟨p, len, cap, rfl, H⟩ := H'
        have H' := aP_ok H; clear H; obtain ⟨i, off, rfl, H⟩ := H'
        have H' := oB_ok H; clear H; obtain ⟨j, e, H⟩ := H'
        refine ⟨_, ?_, H⟩
        unfold indexAddrV; rw [ht]; simp only [hu, natIdx_idx, e, he]
      · exact H.elim
    · exact H.elim
  · exact H.elim
theorem kIndex_ok {t : TypeId} {x i : Value} {K : Value → Prop} (H : kIndex P t x i K) : ∃ v, indexV P t x i = some v ∧ K v := by
  unfold kIndex at H
  split at H
  · rename_i ti k z ht
    split at H
    · rename_i hu
      have H' := vStr_ok H; clear H; obtain ⟨s, rfl, H⟩ := H'
      have H' := oB_ok H; clear H; obtain ⟨j, e, H⟩ := H'
      have H' := oB_ok H; clear H; obtain ⟨b, e', H⟩ := H'
      refine ⟨_, ?_, H⟩
      unfold indexV; rw [ht]; simp only [hu, natIdx_idx, e]
      unfold bAt at e'
      split at e'
      · rename_i hb; rw [hb]; cases e'; rfl
      · cases e'
    · have H' := oB_ok H; clear H; obtain ⟨v, e, H⟩ := H'
      exact ⟨v, e, castT_ok H⟩
    · exact H.elim
  · exact H.elim
theorem kLookup_ok {t : TypeId} {m k : Value} {ok : Bool} {K : Value → Prop} (H : kLookup P h t m k ok K) : ∃ v, lookupV P h t m k ok = some v ∧ K v := by
  unfold kLookup at H
  split at H
  · rename_i ti ht
    split at H
    · rename_i kt et hu
      split at H
      · rename_i tk te hk he
        split at H
        · rename_i z h1 h2
          have H' := vMap_ok H; clear H; obtain ⟨r, rfl, H⟩ := H'
          have H' := oB_ok H; clear H; obtain ⟨es, e, H⟩ := H'
          have H' := oB_ok H; clear H; obtain ⟨w, e', H⟩ := H'
          have H := castT_ok H
          refine ⟨match ok with | true => .tuple ⟨[w.getD z, .bool w.isSome]⟩ | false => w.getD z, ?_, by cases ok <;> exact H⟩
          · unfold lookupV; rw [ht]; simp only [hu, hk, he, h1, h2]
            unfold AW.mapL at e
            split at e
            · cases e
              simp only [look] at e'
              cases e'
              cases ok <;> rfl
            · simp only
              split at e
              · rename_i es' ho
                cases e
                rw [ho]; simp only
                rw [e']
                cases w <;> cases ok <;> rfl
              · cases e
        · exact H.elim
      · exact H.elim
    · exact H.elim
  · exact H.elim

theorem kQ_ok {o : Op} {K : Value → Prop} (H : kQ P o F h K) : ∃ v, opQ P F h o = some v ∧ K v := by
  unfold kQ at H
  split at H
  · exact ⟨_, rfl, H⟩
  · exact ⟨_, rfl, H⟩
  · have H' := vBool_ok H; clear H; obtain ⟨b, e, H⟩ := H'
    rcases bC_ok H with ⟨rfl, H⟩ | ⟨rfl, H⟩
    · exact ⟨_, by simp only [opQ]; rw [e], H⟩
    · exact ⟨_, by simp only [opQ]; rw [e], H⟩
  · split at H
    · rename_i v e; exact ⟨v, e, H⟩
    · exact H.elim
  · exact kLoad_ok H
  · exact kNil_ok H
  · exact kBin_ok H
  · split at H
    · rename_i v e; exact ⟨v, e, H⟩
    · exact H.elim
  · split at H
    · rename_i ti ht
      split at H
      · exact H.elim
      · rename_i hn
        refine ⟨_, ?_, H⟩
        simp only [opQ]; rw [ht]; simp only
        try (split <;> first | rfl | (rename_i e; exact (hn _ e).elim))
    · exact H.elim
  · exact ⟨_, rfl, H⟩
  · exact kSlice_ok H
  · exact kFieldAddr_ok H
  · split at H
    · rename_i v e; exact ⟨v, e, H⟩
    · exact H.elim
  · exact kIndexAddr_ok H
  · exact kIndex_ok H
  · exact kLookup_ok H
  · split at H
    · rename_i vs e
      split at H
      · rename_i v e'
        refine ⟨v, ?_, H⟩
        simp only [opQ]; rw [e]
        simpa using e'
      · exact H.elim
    · exact H.elim
  · exact H.elim

theorem kLen_ok {t : TypeId} {x : Value} {K : Value → Prop} (H : kLen P h t x K) : ∃ v, lenB P h #[t] [x] = some v ∧ K v := by
  unfold kLen at H
  split at H
  · rename_i ti ht
    split at H
    · rename_i hu
      have H' := vStr_ok H; clear H; obtain ⟨s, rfl, H⟩ := H'
      refine ⟨_, ?_, H⟩
      unfold lenB; simp only; rw [ht]; simp only [hu]
    · rename_i e hu
      have H' := vSl_ok H; clear H; obtain ⟨a, n, c, rfl, H⟩ := H'
      refine ⟨_, ?_, H⟩
      unfold lenB; simp only; rw [ht]; simp only [hu]
    · rename_i e e' hu
      have H' := vMap_ok H; clear H; obtain ⟨r, rfl, H⟩ := H'
      have H' := oB_ok H; clear H; obtain ⟨es, e, H⟩ := H'
      refine ⟨_, ?_, H⟩
      unfold lenB; simp only; rw [ht]; simp only [hu]
      unfold AW.mapL at e
      split at e
      · cases e; rfl
      · simp only
        split at e
        · rename_i ho; cases e; rw [ho]
        · cases e
    · rename_i n e hu
      refine ⟨_, ?_, H⟩
      unfold lenB; simp only; rw [ht]; simp only [hu]
    · have H' := oB_ok H; clear H; obtain ⟨v, e, H⟩ := H'
      have H' := vInt_ok H; clear H; obtain ⟨n, rfl, H⟩ := H'
      exact ⟨_, e, H⟩
  · exact H.elim

theorem kBuiltin_ok {b : Builtin} {ts : Array TypeId} {args : List Value} {K : Value → AW → Prop} (H : kBuiltin P b ts args h K) :
    ∃ v h', (match builtinQ P h b ts args with | some v => some (v, h) | none => builtinA P h b ts args) = some (v, h') ∧ K v h' := by
  unfold kBuiltin at H
  split at H
  · split at H
    · rename_i t x hts
      have H' := kLen_ok H; clear H; obtain ⟨v, e, H⟩ := H'
      refine ⟨_, _, ?_, H⟩
      have : builtinQ P h .len ts [x] = some v := by
        simp only [builtinQ]
        rw [← e]
        unfold lenB
        simp only [hts]
      rw [this]
    · exact H.elim
  · have H' := oB_ok H; clear H; obtain ⟨v, e, H⟩ := H'
    have H' := vInt_ok H; clear H; obtain ⟨n, rfl, H⟩ := H'
    refine ⟨_, _, ?_, H⟩
    simp only [builtinQ]; rw [e]
  · split at H
    · split at H
      · rename_i v e
        refine ⟨_, _, ?_, H⟩
        simp only [builtinQ]; rw [e]
      · exact H.elim
    · exact H.elim
  · split at H
    · split at H
      · rename_i v e
        refine ⟨_, _, ?_, H⟩
        simp only [builtinQ]; rw [e]
      · exact H.elim
    · exact H.elim
  · have H' := oP_ok H; clear H; obtain ⟨v, h', e, H⟩ := H'
    have H' := vSl_ok H; clear H; obtain ⟨a, l, c, rfl, H⟩ := H'
    exact ⟨_, _, by simp only [builtinQ, builtinA]; exact e, H⟩
  · have H' := oP_ok H; clear H; obtain ⟨v, h', e, H⟩ := H'
    have H' := vInt_ok H; clear H; obtain ⟨n, rfl, H⟩ := H'
    exact ⟨_, _, by simp only [builtinQ, builtinA]; exact e, H⟩
  · have H' := oP_ok H; clear H; obtain ⟨v, h', e, H⟩ := H'
    exact ⟨_, _, by simp only [builtinQ, builtinA]; exact e, H⟩
  · have H' := oP_ok H; clear H; obtain ⟨v, h', e, H⟩ := H'
    exact ⟨_, _, by simp only [builtinQ, builtinA]; exact e, H⟩
  · have H' := oP_ok H; clear H; obtain ⟨v, h', e, H⟩ := H'
    have H' := vStr_ok H; clear H; obtain ⟨s, rfl, H⟩ := H'
    exact ⟨_, _, by simp only [builtinQ, builtinA]; exact e, H⟩
  · split at H
    · have H' := vSl_ok H; clear H; obtain ⟨a, l, c, rfl, H⟩ := H'
      have H' := oB_ok H; clear H; obtain ⟨v, e, H⟩ := H'
      have H' := vPtr_ok H; clear H; obtain ⟨p, rfl, H⟩ := H'
      exact ⟨_, _, by simp only [builtinQ]; rw [e], H⟩
    · exact H.elim
  · exact H.elim

theorem kA_ok {o : Op} {K : Value → AW → Prop} (H : kA P o F h K) : ∃ v h', opV P F h o = some (v, h') ∧ K v h' := by
  unfold kA at H
  split at H
  · split at H
    · rename_i ti ht
      split at H
      · rename_i z hz
        split at H
        · rename_i ha
          split at H
          · rename_i hs
            refine ⟨_, _, ?_, H⟩
            simp only [opV, opQ, opA]; rw [ht]; simp only [hz, AW.newVar]; rw [ha, hs]; rfl
          · rename_i hs
            refine ⟨_, _, ?_, H⟩
            simp only [opV, opQ, opA]; rw [ht]; simp only [hz, AW.newVar]; rw [ha, hs]; rfl
        · exact H.elim
      · exact H.elim
    · exact H.elim
  · split at H
    · rename_i ha
      refine ⟨_, _, ?_, H⟩
      simp only [opV, opQ, opA, AW.newVar]; rw [ha]; rfl
    · exact H.elim
  · split at H
    · rename_i ti ht
      split at H
      · rename_i el hu
        split at H
        · rename_i te he
          split at H
          · rename_i z h1 h2
            split at H
            · rename_i hb
              split at H
              · rename_i cs hcs
                split at H
                · rename_i ha
                  refine ⟨_, _, ?_, H⟩
                  simp only [opV, opQ, opA, buildSliceV]; rw [ht]; simp only [hu, he, h1, h2, hb]
                  rw [hcs]; simp only [AW.newVar]; rw [ha]; rfl
                · exact H.elim
              · exact H.elim
            · exact H.elim
          · exact H.elim
        · exact H.elim
      · exact H.elim
    · exact H.elim
  · rename_i t a x
    split at H
    · rename_i ti ht
      have H' := vPtr_ok H; clear H; obtain ⟨p, ep, H⟩ := H'
      have H' := aP_ok H; clear H; obtain ⟨i, off, rfl, H⟩ := H'
      split at H
      · rename_i cs hx
        split at H
        · rename_i hb
          have H' := oB_ok H; clear H; obtain ⟨h', e, H⟩ := H'
          refine ⟨_, _, ?_, H⟩
          simp only [opV, opQ, opA, storeV]; rw [ep, hx]; simp only; rw [ht]; simp only [hb]; rw [e]
        · exact H.elim
      · rename_i hx
        split at H
        · rename_i hb
          have H' := oB_ok H; clear H; obtain ⟨h', e, H⟩ := H'
          refine ⟨_, _, ?_, H⟩
          simp only [opV, opQ, opA, storeV]; rw [ep]; simp only; rw [ht]; simp only
          generalize hw : F.ev x = w at hx e ⊢
          cases w <;> first | exact (hx _ rfl).elim | (simp only [hb]; rw [e])
        · exact H.elim
    · exact H.elim
  · have H' := kConv_ok H; clear H; obtain ⟨v, h', e, H⟩ := H'
    exact ⟨v, h', by simp only [opV, opQ, opA]; exact e, H⟩
  · exact ⟨_, _, rfl, H⟩
  · have H' := oP_ok H; clear H; obtain ⟨v, h', e, H⟩ := H'
    have H' := vMap_ok H; clear H; obtain ⟨r, rfl, H⟩ := H'
    exact ⟨_, _, by simp only [opV, opQ]; exact e, H⟩
  · have H' := oP_ok H; clear H; obtain ⟨v, h', e, H⟩ := H'
    have H' := vSl_ok H; clear H; obtain ⟨a, l, c, rfl, H⟩ := H'
    exact ⟨_, _, by simp only [opV, opQ, opA]; exact e, H⟩
  · have H' := oP_ok H; clear H; obtain ⟨v, h', e, H⟩ := H'
    have H' := vSl_ok H; clear H; obtain ⟨a, l, c, rfl, H⟩ := H'
    exact ⟨_, _, by simp only [opV, opQ, opA]; exact e, H⟩
  · have H' := oB_ok H; clear H; obtain ⟨h', e, H⟩ := H'
    exact ⟨_, _, by simp only [opV, opQ, opA]; rw [e], H⟩
  · have H' := oB_ok H; clear H; obtain ⟨h', e, H⟩ := H'
    exact ⟨_, _, by simp only [opV, opQ, opA]; rw [e], H⟩
  · have H' := kBuiltin_ok H; clear H; obtain ⟨v, h', e, H⟩ := H'
    exact ⟨v, h', by simp only [opV, opQ, opA]; exact e, H⟩
  · split at H
    · rename_i ti ht
      split at H
      · rename_i k e hu
        have H' := vMap_ok H; clear H; obtain ⟨r, ex, H⟩ := H'
        rcases bC_ok H with ⟨hn, H⟩ | ⟨_, H⟩
        · have hn : r = none := by simpa using hn
          subst hn
          refine ⟨_, _, ?_, H⟩
          simp only [opV, opQ, opA]; rw [ht]; simp only [hu]; rw [ex]
        · exact H.elim
      · exact H.elim
    · exact H.elim
  · have H' := vPtr_ok H; clear H; obtain ⟨p, ep, H⟩ := H'
    have H' := aP_ok H; clear H; obtain ⟨i, off, rfl, H⟩ := H'
    have H' := bC_ok H; clear H; rcases H' with ⟨hi, H⟩ | ⟨_, H⟩
    · unfold AW.iterAt at hi
      simp only [Bool.and_eq_true] at hi
      obtain ⟨h0, h1⟩ := hi
      have h0 := Nat.eq_of_beq_eq_true h0
      subst h0
      obtain ⟨u, hu⟩ := Option.isSome_iff_exists.1 h1
      refine ⟨_, _, ?_, H⟩
      simp only [opV, opQ, opA]; rw [ep]; simp only; rw [hu]
    · exact H.elim
  · have H' := kQ_ok H; clear H; obtain ⟨v, e, H⟩ := H'
    exact ⟨v, h, by simp only [opV]; rw [e], H⟩
end Go.Abs
end

section
/- Walks, fourth part: frames that say less. -/
namespace Go.Abs
variable {P : Program} {F F' : Fr} {h : AW}

def present (F : Fr) : List Operand → Bool
  | [] => true
  | .tmp t :: l => (F.t.get? t).isSome && present F l
  | _ :: l => present F l

/-- What F holds, F' holds too. -/
structure Sub (F F' : Fr) : Prop where
  n : F.n = F'.n
  t : ∀ (t : Nat) (v : Value), F.t.get? t = some v → F'.t.get? t = some v

theorem Sub.refl (F : Fr) : Sub F F := ⟨rfl, fun _ _ h => h⟩
theorem Sub.get (S : Sub F F') {t : Nat} (h : (F.t.get? t).isSome = true) : F'.t.get? t = F.t.get? t := by
  cases e : F.t.get? t with
  | none => rw [e] at h; cases h
  | some v => exact S.t t v e
theorem ev_all (S : Sub F F') : ∀ {l : List Operand}, present F l = true → ∀ x, x ∈ l → F'.ev x = F.ev x
  | [], _, x, hx => by cases hx
  | y :: l, hp, x, hx => by
    have hl : present F l = true := by
      cases y <;> simp [present] at hp <;> first | exact hp.2 | exact hp
    rcases List.mem_cons.1 hx with rfl | hm
    · cases x with
      | tmp t =>
        simp [present] at hp
        simp only [Fr.ev, S.get hp.1]
      | const v => rfl
      | global g => rfl
      | func f => rfl
    · exact ev_all S hl x hm
theorem vals_sub {l : Array Operand} (H : ∀ x, x ∈ l.toList → F'.ev x = F.ev x) : vals F' l = vals F l := by
  unfold vals
  exact List.map_congr_left H
theorem parts_sub {l : Array (Nat × Operand)} (H : ∀ p, p ∈ l.toList → F'.ev p.2 = F.ev p.2) : l.toList.map (fun p => (p.1, F'.ev p.2)) = l.toList.map (fun p => (p.1, F.ev p.2)) :=
  List.map_congr_left fun p hp => by rw [H p hp]
theorem optmap_sub {x : Option Operand} (H : ∀ y, x = some y → F'.ev y = F.ev y) : x.map F'.ev = x.map F.ev := by
  cases x with
  | none => rfl
  | some y => simp [H y rfl]

theorem opV_sub {o : Op} (H : ∀ x, x ∈ o.operands.toList → F'.ev x = F.ev x) : opV P F' h o = opV P F h o := by
  cases o with
  | move x => simp only [opV, opQ, H x (by simp [Op.operands])]
  | assign x => simp only [opV, opQ, H x (by simp [Op.operands])]
  | pick c a b => simp only [opV, opQ, opA, H c (by simp [Op.operands]), H a (by simp [Op.operands]), H b (by simp [Op.operands])]
  | alloc t => rfl
  | box t x => simp only [opV, opQ, opA, H x (by simp [Op.operands])]
  | build t ps => simp only [opV, opQ, opA, parts_sub (F := F) (F' := F') (l := ps) fun p hp => H p.2 (by simp only [Op.operands]; simpa using ⟨p.1, by simpa using hp⟩)]
  | buildSlice t n ps => simp only [opV, opQ, opA, parts_sub (F := F) (F' := F') (l := ps) fun p hp => H p.2 (by simp only [Op.operands]; simpa using ⟨p.1, by simpa using hp⟩)]
  | insert t m k v => simp only [opV, opQ, opA, H m (by simp [Op.operands]), H k (by simp [Op.operands]), H v (by simp [Op.operands])]
  | load t x => simp only [opV, opQ, opA, H x (by simp [Op.operands])]
  | store t a x => simp only [opV, opQ, opA, H a (by simp [Op.operands]), H x (by simp [Op.operands])]
  | nilCheck x => simp only [opV, opQ, opA, H x (by simp [Op.operands])]
  | binOp op t x y ty => simp only [opV, opQ, opA, H x (by simp [Op.operands]), H y (by simp [Op.operands])]
  | unOp op t x => simp only [opV, opQ, opA, H x (by simp [Op.operands])]
  | convert s d x => simp only [opV, opQ, opA, H x (by simp [Op.operands])]
  | makeInterface t x => simp only [opV, opQ, opA, H x (by simp [Op.operands])]
  | makeFunc fn a b =>
    simp only [opV, opQ]
    rw [vals_sub (l := a) fun x hx => H x (by simp only [Op.operands]; simp at hx ⊢; exact .inl hx), vals_sub (l := b) fun x hx => H x (by simp only [Op.operands]; simp at hx ⊢; exact .inr hx)]
  | makeMap t r =>
    cases r with
    | none => rfl
    | some x => simp only [opV, opQ, opA, H x (by simp [Op.operands])]
  | makeSlice t a b => simp only [opV, opQ, opA, H a (by simp [Op.operands]), H b (by simp [Op.operands])]
  | slice t x lo hi mx =>
    have h1 := H x (by simp [Op.operands])
    have h2 := optmap_sub (F := F) (F' := F') (x := lo) fun y hy => H y (by subst hy; simp [Op.operands])
    have h3 := optmap_sub (F := F) (F' := F') (x := hi) fun y hy => H y (by subst hy; simp [Op.operands])
    cases mx with
    | none => simp only [opV, opQ, opA, h1, h2, h3]
    | some m => simp only [opV, opQ, opA, h1, h2, h3, H m (by simp [Op.operands])]
  | fieldAddr t x f => simp only [opV, opQ, opA, H x (by simp [Op.operands])]
  | field t x f => simp only [opV, opQ, opA, H x (by simp [Op.operands])]
  | indexAddr t x i => simp only [opV, opQ, opA, H x (by simp [Op.operands]), H i (by simp [Op.operands])]
  | index t x i => simp only [opV, opQ, opA, H x (by simp [Op.operands]), H i (by simp [Op.operands])]
  | lookup t x i ok => simp only [opV, opQ, opA, H x (by simp [Op.operands]), H i (by simp [Op.operands])]
  | mapUpdate t m k v => simp only [opV, opQ, opA, H m (by simp [Op.operands]), H k (by simp [Op.operands]), H v (by simp [Op.operands])]
  | extract x i => simp only [opV, opQ, opA, H x (by simp [Op.operands])]
  | range t x => simp only [opV, opQ, opA, H x (by simp [Op.operands])]
  | next x s => simp only [opV, opQ, opA, H x (by simp [Op.operands])]
  | call c =>
    obtain ⟨cal, args, ats⟩ := c
    cases cal with
    | builtin b =>
      simp only [opV, opQ, opA]
      rw [vals_sub (l := args) fun x hx => H x (by simp [Op.operands, Call.operands]; simpa using hx)]
    | value f => rfl
    | invoke r m => rfl
  | _ => rfl

theorem target_sub {f : Operand} {args : Array Operand} {ats : Array TypeId} (H : ∀ x, x ∈ (Op.call { callee := .value f, args, argTypes := ats }).operands.toList → F'.ev x = F.ev x) :
    target F' { callee := .value f, args, argTypes := ats } = target F { callee := .value f, args, argTypes := ats } := by
  unfold target
  simp only
  rw [H f (by simp [Op.operands, Call.operands]), vals_sub (l := args) fun x hx => H x (by simp [Op.operands, Call.operands]; exact .inr (by simpa using hx))]

theorem put_sub (S : Sub F F') {d : Option Tmp} {v : Value} {F1 : Fr} (hp : F.put d v = some F1) : ∃ F1', F'.put d v = some F1' ∧ Sub F1 F1' := by
  unfold Fr.put at hp ⊢
  cases d with
  | none => simp only at hp ⊢; cases hp; exact ⟨F', rfl, S⟩
  | some d =>
    simp only at hp ⊢
    rw [← S.n]
    split at hp
    · rename_i hb
      cases hp
      refine ⟨_, rfl, rfl, fun t w hw => ?_⟩
      simp only at hw ⊢
      rw [T.get?_set] at hw ⊢
      split
      · rename_i e; rw [if_pos e] at hw; exact hw
      · rename_i e; rw [if_neg e] at hw; exact S.t t w hw
    · cases hp
end Go.Abs
end

section
/- Walks, fifth part: regions and code. -/
namespace Go.Abs

section
variable (P : Program)

/-- The call of f comes to something of which Q holds. -/
def EvQ (f : FuncId) (args : List Value) (h : AW) (Q : Value → AW → Prop) : Prop := ∃ v h', Evals P f args h v h' ∧ Q v h'
theorem EvQ.mono {P : Program} {f : FuncId} {args : List Value} {h : AW} {Q Q' : Value → AW → Prop} (H : EvQ P f args h Q) (hq : ∀ v h', Q v h' → Q' v h') : EvQ P f args h Q' := by
  obtain ⟨v, h', e, q⟩ := H
  exact ⟨v, h', e, hq v h' q⟩

def castO (t : TypeId) (v : Value) (K : Value → Prop) : Prop :=
  match P.underlying t with
  | some (.tuple es) => match es.toList with
    | [] => K v
    | ts => vTup v fun l => castR.go P ts l fun l => K (.tuple ⟨l⟩)
  | some .invalid => K v
  | some _ => castT P t v K
  | none => K v

def kOp (o : Op) (t : TypeId) (F : Fr) (h : AW) (K : Value → AW → Prop) : Prop :=
  match o with
  | .call { callee := .value f, args, argTypes := _ } => vFun (F.ev f) fun g first captured => EvQ P g (first ++ (vals F args ++ captured)) h fun v h => castO P t v fun v => K v h
  | .defer c => match deferB P F c with
    | true => K undef h
    | false => False
  | o => kA P o F h K

def kPut (F : Fr) (d : Option Tmp) (v : Value) (K : Fr → Prop) : Prop := match F.put d v with | some F => K F | none => False
def setB (F : Fr) (t : Nat) (b : Bool) : Fr := ⟨F.n, F.t.set t (.bool b)⟩

def kGuard (ops : List Oper) (F : Fr) (g : Option (Nat × Bool)) (yes no : Fr → Prop) : Prop :=
  match g with
  | none => yes F
  | some (j, want) => match ops[j]? with
    | some oj => match oj.dst with
      | some d => match F.t.get? d with
        | some v => (match v with
          | .tuple _ => no F
          | v => vBool v fun b => bC b (match want with | true => yes (setB F d true) | false => no (setB F d true)) (match want with | false => yes (setB F d false) | true => no (setB F d false)))
        | none => False
      | none => False
    | none => False

def kOps (ops : List Oper) : List Oper → Fr → AW → (Fr → AW → Prop) → Prop
  | [], F, h, K => K F h
  | o :: l, F, h, K => kGuard ops F o.guard
      (fun F => match present F o.op.operands.toList with
        | true => kOp P o.op o.type F h fun v h => kPut F o.dst v fun F => kOps ops l F h K
        | false => False)
      (fun F => kPut F o.dst undef fun F => kOps ops l F h K)

/-! Stacks: what stands behind a piece of code. -/
inductive Item where
  | seq (c : Code)
  | block (id : Nat)
  | loop (b : Code)

def finV (fn : Func) (F : Fr) (h : AW) : Option Value :=
  match resultL P F h fn.results.toList with
  | some [v] => some v
  | some vs => some (.tuple ⟨vs⟩)
  | none => none

def RestS (fn : Func) (Q : Value → AW → Prop) : List Item → Ex → Fr → AW → Prop
  | [], e, F, h => (∀ j, e ≠ .exit j) ∧ ∃ v, finV P fn F h = some v ∧ Q v h
  | .seq c :: st, e, F, h => match e with
    | .normal => ∃ e F' h', Runs P c F h e F' h' ∧ RestS fn Q st e F' h'
    | e => RestS fn Q st e F h
  | .block id :: st, e, F, h => RestS fn Q st (outOf id e) F h
  | .loop b :: st, e, F, h => match e with
    | .normal => ∃ e F' h', Runs P (.loop b) F h e F' h' ∧ RestS fn Q st e F' h'
    | e => RestS fn Q st e F h
def RestC (fn : Func) (Q : Value → AW → Prop) (c : Code) (st : List Item) (F : Fr) (h : AW) : Prop :=
  ∃ e F' h', Runs P c F h e F' h' ∧ RestS P fn Q st e F' h'

/-- From a place on, whatever else the frame holds. -/
def U (fn : Func) (c : Code) (st : List Item) (L : List Nat) (vs : List Value) (h : AW) (Q : Value → AW → Prop) : Prop :=
  ∀ F : Fr, F.n = fn.ntmps → (∀ (j t : Nat), L[j]? = some t → F.t.get? t = vs[j]?) → RestC P fn Q c st F h

def getAll (F : Fr) : List Nat → Option (List Value)
  | [] => some []
  | t :: l => match F.t.get? t, getAll F l with | some v, some r => some (v :: r) | _, _ => none

def kRes (F : Fr) (h : AW) (l : List ResultVar) (K : List Value → Prop) : Prop :=
  match l with
  | [] => K []
  | .tmp t :: l => match F.t.get? t with
    | some v => kRes F h l fun r => K (v :: r)
    | none => False
  | .cell a t :: l => match F.t.get? a with
    | some p => kLoad P h t p fun v => kRes F h l fun r => K (v :: r)
    | none => False
def kRet (fn : Func) (Q : Value → AW → Prop) (F : Fr) (h : AW) : Prop :=
  kRes P F h fn.results.toList fun vs => match vs with | [v] => Q v h | vs => Q (.tuple ⟨vs⟩) h

/-- Drawn regions: what a quiet operation says must not hang on the place at which it is drawn. -/
def reflV : Value → Bool
  | .agg cs => go cs.toList
  | v => base v
  where
  base : Value → Bool
    | .bool _ | .int _ _ | .string _ | .pointer _ | .slice _ _ _ | .map _ | .nilFunc | .nilIface => true
    | _ => false
  go : List Value → Bool
    | [] => true
    | v :: l => base v && go l
/-- What may stand in an interface that is read twice. -/
def ifcB (v : Value) : Bool := reflV.base v
def chkOk : Op → Bool
  | .load .. | .lookup .. | .slice _ _ _ _ none => true
  | .call { callee := .builtin b, args := _, argTypes := _ } => match b with | .len | .cap | .min | .max | .unsafeSliceData => true | _ => false
  | _ => false
def kChk (o : Op) (F : Fr) (h : AW) (v : Value) (K : Prop) : Prop :=
  match v with
  | .iface t x => (match chkOk o with
    | true => ifcB x = true ∧ kA P o F h fun v' _ => v' = .iface t x ∧ K
    | false => False)
  | v => match chkOk o && reflV v with
    | true => kA P o F h fun v' _ => v' = v ∧ K
    | false => False
def kFrom (M : List Nat) (j : Nat) (chk : AW → Prop → Prop) (own : Nat) : Nat → AW → List (Nat × AW) → Prop → Prop
  | cur, h, [], K => match Nat.beq cur own with | true => K | false => chk h K
  | cur, h, (i, h') :: l, K => match Nat.beq cur own || !noneBef M j ((i, h') :: l) with
    | true => (match bef M j i with | true => K | false => kFrom M j chk own (cur + 1) h' l K)
    | false => chk h (match bef M j i with | true => K | false => kFrom M j chk own (cur + 1) h' l K)
def kSt (M : List Nat) (h : AW) (As : List (Nat × AW)) (own j : Nat) (s : St) (K : Prop) : Prop :=
  match s.act, s.want with
  | none, true => match looks s.o.op with
    | true => kFrom M j (fun h K => kChk P s.o.op s.F h s.v K) own 0 h As K
    | false => K
  | _, _ => K
def kSts (M : List Nat) (h : AW) (As : List (Nat × AW)) : Nat → Nat → List St → Prop → Prop
  | _, _, [], K => K
  | own, j, s :: l, K => kSt P M h As own j s (kSts M h As (match s.act with | some _ => own + 1 | none => own) (j + 1) l K)

/-- Is it an operation of the kind that turns the heap? -/
def actish2 : Op → Bool
  | .alloc _ | .box .. | .buildSlice .. | .store .. | .makeMap .. | .makeSlice .. | .slice _ _ _ _ (some _) | .mapUpdate .. | .insert .. => true
  | .call { callee := .builtin b, args := _, argTypes := _ } => match b with | .len | .cap | .min | .max | .unsafeSliceData => false | _ => true
  | .call _ => true
  | _ => false
def quietish : Op → Bool
  | .convert .. => false
  | .defer _ => false
  | .range .. => false
  | .next .. => false
  | o => !actish2 o

def kTr (ops : List Oper) : List Oper → Fr → AW → List St → (List St → Fr → AW → Prop) → Prop
  | [], F, h, tr, K => K tr F h
  | o :: l, F, h, tr, K => kGuard ops F o.guard
      (fun F => match present F o.op.operands.toList with
        | true => match actish2 o.op with
          | true => kOp P o.op o.type F h fun v h' => kPut F o.dst v fun F' => kTr ops l F' h' (tr ++ [⟨o, F, h, true, some h', v⟩]) K
          | false => match quietish o.op with
            | true => kOp P o.op o.type F h fun v h' => kPut F o.dst v fun F' => kTr ops l F' h (tr ++ [⟨o, F, h, true, none, v⟩]) K
            | false => False
        | false => False)
      (fun F => kPut F o.dst undef fun F' => kTr ops l F' h (tr ++ [⟨o, F, h, false, none, undef⟩]) K)
def kDrawn (ops : List Oper) (F : Fr) (h : AW) (K : Fr → AW → Prop) : Prop :=
  match staticOk ops with
  | true => kTr P ops ops F h [] fun tr F' h' => match orderedOk ops (masks ops []) (acts 0 tr) with
    | true => kSts P (masks ops []) h (acts 0 tr) 0 0 tr (K F' h')
    | false => False
  | false => False
def kRegion (ops : List Oper) (draw : Bool) (F : Fr) (h : AW) (K : Fr → AW → Prop) : Prop :=
  match draw with
  | false => kOps P ops ops F h K
  | true => kDrawn P ops F h K

variable (fn : Func) (ann : Nat → Option (List Nat)) (Q : Value → AW → Prop)

def kPop (go : Code → List Item → Fr → AW → Prop) : List Item → Fr → AW → Prop
  | [], F, h => kRet P fn Q F h
  | .seq c :: st, F, h => go c st F h
  | .block _ :: st, F, h => kPop go st F h
  | .loop b :: st, F, h => go b (.loop b :: st) F h
def kExit (go : Code → List Item → Fr → AW → Prop) (id : Nat) : List Item → Fr → AW → Prop
  | [], _, _ => False
  | .block j :: st, F, h => match Nat.beq id j with
    | true => kPop P fn Q go st F h
    | false => kExit go id st F h
  | _ :: st, F, h => kExit go id st F h

def kCond (F : Fr) (x : Operand) (yes no : Fr → Prop) : Prop :=
  match x with
  | .tmp t => match F.t.get? t with
    | some v => vBool v fun b => bC b (yes (setB F t true)) (no (setB F t false))
    | none => False
  | .const v => vBool v fun b => bC b (yes F) (no F)
  | _ => False

def kOver (F : Fr) (g : Operand) (h : AW) (K : AW → Prop) : Prop :=
  match present F [g] with
  | true => vFun (F.ev g) fun f first captured => bC (hasBody P f) (EvQ P f (first ++ ([.chan none] ++ captured)) h fun _ h => K h) False
  | false => False

def kRun : Nat → Code → List Item → Fr → AW → Prop
  | 0, _, _, _, _ => False
  | n + 1, c, st, F, h =>
    match c with
    | .skip => kPop P fn Q (kRun n) st F h
    | .label _ => kPop P fn Q (kRun n) st F h
    | .region id ops draw => match ann id with
      | some L => match getAll F L, Nat.beq F.n fn.ntmps with
        | some vs, true => U P fn (.region id ops draw) st L vs h Q
        | _, _ => False
      | none => kRegion P ops.toList draw F h fun F h => kPop P fn Q (kRun n) st F h
    | .seq a b => kRun n a (.seq b :: st) F h
    | .cond x a b => kCond F x (fun F => kRun n a st F h) (fun F => kRun n b st F h)
    | .block id b => kRun n b (.block id :: st) F h
    | .loop b => kRun n b (.loop b :: st) F h
    | .scope b => kRun n b st F h
    | .exit id => kExit P fn Q (kRun n) id st F h
    | .ret => kRet P fn Q F h
    | .rangeFunc g _ _ _ => kOver P F g h fun h => kPop P fn Q (kRun n) st F h
    | _ => False

def frOf (n : Nat) : List Nat → List Value → T Value → Fr
  | t :: L, v :: vs, T => frOf n L vs (T.set t v)
  | _, _, T => ⟨n, T⟩

/-- The place of a region in a function's code. -/
def locate (id : Nat) : Code → List Item → Option (Code × List Item)
  | .region i ops d, st => match Nat.beq i id with | true => some (.region i ops d, st) | false => none
  | .seq a b, st => match locate id a (.seq b :: st) with
    | some r => some r
    | none => locate id b st
  | .cond _ a b, st => match locate id a st with
    | some r => some r
    | none => locate id b st
  | .block j b, st => locate id b (.block j :: st)
  | .loop b, st => locate id b (.loop b :: st)
  | .scope b, st => locate id b st
  | _, _ => none

/-- From a region of a function on. -/
def unitAt (f id : Nat) (L : List Nat) (vs : List Value) (h : AW) (Q : Value → AW → Prop) : Prop :=
  match bodyAny P f with
  | some (fn, c) => match locate id c [] with
    | some (c, st) => U P fn c st L vs h Q
    | none => False
  | none => False
def kUnit (f id n : Nat) (ann : Nat → Option (List Nat)) (L : List Nat) (vs : List Value) (h : AW) (Q : Value → AW → Prop) : Prop :=
  match bodyAny P f with
  | some (fn, c) => match locate id c [] with
    | some (.region _ ops d, st) => match Nat.beq L.length vs.length with
      | true => kRegion P ops.toList d (frOf fn.ntmps L vs .nil) h fun F h => kPop P fn Q (kRun P fn ann Q n) st F h
      | false => False
    | _ => False
  | none => False
def kFn (f n : Nat) (ann : Nat → Option (List Nat)) (args : List Value) (h : AW) (Q : Value → AW → Prop) : Prop :=
  match bodyOf P f with
  | some (fn, c) => match Nat.ble args.length fn.ntmps with
    | true => kRun P fn ann Q n c [] ⟨fn.ntmps, T.ofList args⟩ h
    | false => False
  | none => False
/-- A part of a test, on the heap that it is given. -/
def kOwn (f n : Nat) (ann : Nat → Option (List Nat)) (args : List Value) (h : AW) (Q : Value → AW → Prop) : Prop :=
  match closedOf P f with
  | some (fn, c) => match Nat.ble args.length fn.ntmps with
    | true => kRun P fn ann Q n c [] ⟨fn.ntmps, T.ofList args⟩ h
    | false => False
  | none => False
def RunOwn (f : Nat) (args : List Value) (h : AW) (Q : Value → AW → Prop) : Prop :=
  ∃ fn c e F h' v n k, closedOf P f = some (fn, c) ∧ run P (callF P n) k c { n := Nat.max args.length fn.ntmps, t := T.ofList args } h = some (e, F, h') ∧ (∀ j, e ≠ .exit j) ∧
    (match resultL P F h' fn.results.toList with | some [v] => some v | some vs => some (.tuple ⟨vs⟩) | none => none) = some v ∧ Q v h'
end
end Go.Abs
end

section
/- Walks, sixth part: regions and code are right. -/
namespace Go.Abs
variable {P : Program} {F F' : Fr} {h : AW}

theorem castO_ok {t : TypeId} {v : Value} {K : Value → Prop} (H : castO P t v K) : K v := by
  unfold castO at H
  split at H
  · split at H
    · exact H
    · obtain ⟨cs, rfl, H⟩ := vTup_ok H
      exact castRgo_ok H
  · exact H
  · exact castT_ok H
  · exact H

/-- The middle of a step. -/
def Mid (P : Program) (n : Nat) (o : Op) (F : Fr) (h : AW) : Option (Value × AW) :=
  match o with
  | .call { callee := .value f, args, argTypes } => match target F { callee := .value f, args, argTypes } with
    | some (f, args) => callF P n f args h
    | none => none
  | op => opD P F h op

theorem opV_call {f : Operand} {args : Array Operand} {ats : Array TypeId} : opV P F h (.call { callee := .value f, args, argTypes := ats }) = none := rfl
theorem opV_defer {c : Call} : opV P F h (.defer c) = none := rfl
theorem opD_opV {o : Op} {r : Value × AW} (e : opV P F h o = some r) : opD P F h o = some r := by
  unfold opD
  split
  · rw [opV_defer] at e; cases e
  · exact e
theorem mid_opV {o : Op} {n : Nat} {r : Value × AW} (e : opV P F h o = some r) : Mid P n o F h = some r := by
  unfold Mid
  split
  · rw [opV_call] at e; cases e
  · exact opD_opV e
theorem deferB_sub {c : Call} (H : ∀ x, x ∈ (Op.defer c).operands.toList → F'.ev x = F.ev x) : deferB P F' c = deferB P F c := by
  unfold deferB
  split
  · rename_i f hcal
    rw [H f (by simp [Op.operands, Call.operands, hcal])]
  · rfl
theorem opD_sub {o : Op} (H : ∀ x, x ∈ o.operands.toList → F'.ev x = F.ev x) : opD P F' h o = opD P F h o := by
  unfold opD
  split
  · rw [deferB_sub H]
  · exact opV_sub H
theorem kOp_ok {o : Op} {t : TypeId} {K : Value → AW → Prop} (H : kOp P o t F h K) : ∃ v h', (∃ n, Mid P n o F h = some (v, h')) ∧ K v h' := by
  unfold kOp at H
  split at H
  · rename_i f args ats
    have H' := vFun_ok H; clear H; obtain ⟨g, a, b, e, v, h', ⟨n, ev⟩, H⟩ := H'
    refine ⟨v, h', ⟨n, ?_⟩, castO_ok H⟩
    unfold Mid target
    simp only [e]
    exact ev
  · rename_i c
    split at H
    · rename_i hd
      refine ⟨undef, h, ⟨0, ?_⟩, H⟩
      unfold Mid opD
      simp only [hd]
    · exact H.elim
  · have H' := kA_ok H; clear H; obtain ⟨v, h', e, H⟩ := H'
    exact ⟨v, h', ⟨0, mid_opV e⟩, H⟩
theorem mid_sub {o : Op} {n : Nat} (H : ∀ x, x ∈ o.operands.toList → F'.ev x = F.ev x) : Mid P n o F' h = Mid P n o F h := by
  unfold Mid
  split
  · rw [target_sub H]
  · exact opD_sub H
theorem mid_mono {o : Op} {n m : Nat} (hnm : n ≤ m) {r : Value × AW} (e : Mid P n o F h = some r) : Mid P m o F h = some r := by
  unfold Mid at e ⊢
  split at e
  · split at e
    · rename_i ht
      exact callF_mono hnm _ _ _ _ e
    · cases e
  · exact e
theorem step_mid {ops : List Oper} {o : Oper} {n : Nat} {v : Value} {h' : AW} {F1 : Fr} (hg : guardOk ops F o = some true) (e : Mid P n o.op F h = some (v, h')) (hp : F.put o.dst v = some F1) : stepOp P (callF P n) ops o F h = some (F1, h') := by
  unfold stepOp
  rw [hg]
  simp only
  unfold Mid at e
  split at e
  · rename_i f args ats hop
    rw [hop]
    simp only
    split at e
    · rename_i ht
      rw [ht]; simp only; rw [e]; simp only; rw [hp]
    · cases e
  · rename_i hop
    split
    · rename_i v1 h1 hx
      split at hx
      · rename_i f args ats ho; exact (hop _ _ _ ho).elim
      · rw [e] at hx; cases hx; rw [hp]
    · rename_i hx
      split at hx
      · rename_i f args ats ho; exact (hop _ _ _ ho).elim
      · rw [e] at hx; cases hx
theorem step_skip {ops : List Oper} {o : Oper} {n : Nat} {F1 : Fr} (hg : guardOk ops F o = some false) (hp : F.put o.dst undef = some F1) : stepOp P (callF P n) ops o F h = some (F1, h) := by
  unfold stepOp
  rw [hg]
  simp only
  rw [hp]

theorem kPut_ok {d : Option Tmp} {v : Value} {K : Fr → Prop} (H : kPut F d v K) : ∃ F1, F.put d v = some F1 ∧ K F1 := by
  unfold kPut at H
  split at H
  · rename_i F1 e; exact ⟨F1, e, H⟩
  · exact H.elim
theorem setB_sub (S : Sub F F') {t : Nat} {b : Bool} (e : F'.t.get? t = some (.bool b)) : Sub (setB F t b) F' := by
  refine ⟨S.n, fun t' v hv => ?_⟩
  simp only [setB] at hv
  rw [T.get?_set] at hv
  split at hv
  · rename_i e'; subst e'; cases hv; exact e
  · exact S.t t' v hv
theorem kGuard_ok {ops : List Oper} {o : Oper} {yes no : Fr → Prop} (H : kGuard ops F o.guard yes no) (S : Sub F F') :
    ∃ F2, Sub F2 F' ∧ ((guardOk ops F' o = some true ∧ yes F2) ∨ (guardOk ops F' o = some false ∧ no F2)) := by
  unfold kGuard at H
  unfold guardOk
  split at H
  · rename_i hg
    exact ⟨F, S, .inl ⟨by rw [hg], H⟩⟩
  · rename_i j want hg
    rw [hg]; simp only
    split at H
    · rename_i oj hj
      rw [hj]; simp only
      split at H
      · rename_i d hd
        rw [hd]; simp only
        split at H
        · rename_i v hv
          have hv' := S.t d v hv
          rw [hv']
          split at H
          · exact ⟨F, S, .inr ⟨rfl, H⟩⟩
          · obtain ⟨b, rfl, H⟩ := vBool_ok H
            rcases bC_ok H with ⟨rfl, H⟩ | ⟨rfl, H⟩
            · refine ⟨_, setB_sub S hv', ?_⟩
              cases want with
              | true => exact .inl ⟨rfl, H⟩
              | false => exact .inr ⟨rfl, H⟩
            · refine ⟨_, setB_sub S hv', ?_⟩
              cases want with
              | true => exact .inr ⟨rfl, H⟩
              | false => exact .inl ⟨rfl, H⟩
        · exact H.elim
      · exact H.elim
    · exact H.elim

theorem kOps_ok {ops : List Oper} : ∀ {l : List Oper} {F F' : Fr} {h : AW} {K : Fr → AW → Prop}, kOps P ops l F h K → Sub F F' → ∃ F1 F1' h1, Opss P ops l F' h F1' h1 ∧ Sub F1 F1' ∧ K F1 h1
  | [], F, F', h, K, H, S => ⟨F, F', h, Opss.nil, S, H⟩
  | o :: l, F, F', h, K, H, S => by
    simp only [kOps] at H
    obtain ⟨F2, S2, ⟨hg, H⟩ | ⟨hg, H⟩⟩ := kGuard_ok H S
    · split at H
      · rename_i hp
        obtain ⟨v, h', ⟨n, e⟩, H⟩ := kOp_ok H
        obtain ⟨F3, e3, H⟩ := kPut_ok H
        obtain ⟨F3', e3', S3⟩ := put_sub S2 e3
        obtain ⟨F1, F1', h1, a, b, c⟩ := kOps_ok H S3
        refine ⟨F1, F1', h1, Opss.cons ⟨n, step_mid hg ?_ e3'⟩ a, b, c⟩
        rw [mid_sub (ev_all S2 hp)]; exact e
      · exact H.elim
    · obtain ⟨F3, e3, H⟩ := kPut_ok H
      obtain ⟨F3', e3', S3⟩ := put_sub S2 e3
      obtain ⟨F1, F1', h1, a, b, c⟩ := kOps_ok H S3
      exact ⟨F1, F1', h1, Opss.cons ⟨0, step_skip hg e3'⟩ a, b, c⟩

/-! Drawn regions. -/
theorem actish2_none {o : Op} (ho : actish2 o = true) : opQ P F h o = none := by
  cases o <;> first | rfl | (simp [actish2] at ho; done) | skip
  · rename_i t x lo hi mx
    cases mx with
    | none => simp [actish2] at ho
    | some m => rfl
  · rename_i c
    obtain ⟨cal, args, ats⟩ := c
    cases cal with
    | builtin b => cases b <;> first | rfl | (simp [actish2] at ho; done)
    | _ => rfl
theorem quietish_none {o : Op} (ho : quietish o = true) : opA P F h o = none := by
  cases o <;> first | rfl | (simp [quietish, actish2] at ho; done) | skip
  · rename_i t x lo hi mx
    cases mx with
    | none => rfl
    | some m => simp [quietish, actish2] at ho
  · rename_i c
    obtain ⟨cal, args, ats⟩ := c
    cases cal with
    | builtin b => cases b <;> first | rfl | (simp [quietish, actish2] at ho; done)
    | _ => simp [quietish, actish2] at ho
theorem opV_quiet {o : Op} (ho : quietish o = true) {v : Value} {h' : AW} (e : opV P F h o = some (v, h')) : opQ P F h o = some v ∧ h' = h := by
  unfold opV at e
  split at e
  · rename_i v' hq; cases e; exact ⟨hq, rfl⟩
  · rw [quietish_none ho] at e; cases e
theorem chkOk_quiet {o : Op} (ho : chkOk o = true) : quietish o = true := by
  cases o <;> first | rfl | (simp [chkOk] at ho; done) | skip
  · rename_i t x lo hi mx
    cases mx with
    | none => rfl
    | some m => simp [chkOk] at ho
  · rename_i c
    obtain ⟨cal, args, ats⟩ := c
    cases cal with
    | builtin b => cases b <;> first | rfl | (simp [chkOk] at ho; done)
    | _ => simp [chkOk] at ho
theorem opD_no {o : Op} (ho : ∀ c, o ≠ .defer c) : opD P F h o = opV P F h o := by
  unfold opD
  split
  · rename_i c; exact absurd rfl (ho c)
  · rfl
theorem mid_quiet {o : Op} {n : Nat} (ho : quietish o = true) {v : Value} {h' : AW} (e : Mid P n o F h = some (v, h')) : opQ P F h o = some v ∧ h' = h := by
  unfold Mid at e
  split at e
  · simp [quietish, actish2] at ho
  · rw [opD_no (fun c hc => by rw [hc] at ho; simp [quietish, actish2] at ho)] at e
    exact opV_quiet ho e
theorem mid_act {o : Oper} {n : Nat} (ho : actish2 o.op = true) {r : Value × AW} (e : Mid P n o.op F h = some r) : actV P (callF P n) F h o = some r := by
  unfold Mid at e
  unfold actV
  split at e
  · rename_i f args ats hop; rw [hop]; simp only; exact e
  · rename_i hop
    rw [opD_no (fun c hc => by rw [hc] at ho; simp [actish2] at ho)] at e
    unfold opV at e
    rw [actish2_none ho] at e
    simp only at e
    split
    · rename_i f args ats ho'; exact (hop _ _ _ ho').elim
    · exact e

structure StR (P : Program) (s s' : St) : Prop where
  o : s'.o = s.o
  sub : Sub s.F s'.F
  h : s'.h = s.h
  want : s'.want = s.want
  act : s'.act = s.act
  v : s'.v = s.v
  pres : s.want = true → present s.F s.o.op.operands.toList = true
inductive TrR (P : Program) : List St → List St → Prop where
  | nil : TrR P [] []
  | cons {s s' : St} {l l' : List St} : StR P s s' → TrR P l l' → TrR P (s :: l) (s' :: l')

theorem kTr_ok {ops : List Oper} : ∀ {l : List Oper} {F F' : Fr} {h : AW} {tr0 : List St} {K : List St → Fr → AW → Prop}, kTr P ops l F h tr0 K → Sub F F' →
    ∃ n tr tr' F1 F1' h1, traceOps P (callF P n) ops l F' h = some (tr', F1', h1) ∧ runOps P (callF P n) ops l F' h = some (F1', h1) ∧ TrR P tr tr' ∧ Sub F1 F1' ∧ K (tr0 ++ tr) F1 h1
  | [], F, F', h, tr0, K, H, S => ⟨0, [], [], F, F', h, rfl, rfl, .nil, S, by simpa [kTr] using H⟩
  | o :: l, F, F', h, tr0, K, H, S => by
    simp only [kTr] at H
    obtain ⟨F2, S2, ⟨hg, H⟩ | ⟨hg, H⟩⟩ := kGuard_ok H S
    · split at H
      · rename_i hp
        split at H
        · rename_i ha
          obtain ⟨v, h', ⟨n, e⟩, H⟩ := kOp_ok H
          obtain ⟨F3, e3, H⟩ := kPut_ok H
          obtain ⟨F3', e3', S3⟩ := put_sub S2 e3
          obtain ⟨m, tr, tr', F1, F1', h1, a, b, c, d, k⟩ := kTr_ok H S3
          rw [← mid_sub (ev_all S2 hp)] at e
          have e' := mid_mono (Nat.le_max_left n m) e
          refine ⟨Nat.max n m, _ :: tr, _ :: tr', F1, F1', h1, ?_, ?_, .cons (s := ⟨o, F2, h, true, some h', v⟩) (s' := ⟨o, F', h, true, some h', v⟩) ⟨rfl, S2, rfl, rfl, rfl, rfl, fun _ => hp⟩ c, d, by simpa using k⟩
          · simp only [traceOps]
            rw [hg]; simp only
            rw [actish2_none ha]; simp only
            rw [mid_act ha e']; simp only
            rw [e3']; simp only
            rw [traceOps_mono (callF_mono (Nat.le_max_right n m)) a]
          · simp only [runOps]
            rw [step_mid hg e' e3']; simp only
            exact runOps_mono (callF_mono (Nat.le_max_right n m)) b
        · split at H
          · rename_i hq
            obtain ⟨v, h', ⟨n, e⟩, H⟩ := kOp_ok H
            obtain ⟨F3, e3, H⟩ := kPut_ok H
            obtain ⟨F3', e3', S3⟩ := put_sub S2 e3
            obtain ⟨m, tr, tr', F1, F1', h1, a, b, c, d, k⟩ := kTr_ok H S3
            rw [← mid_sub (ev_all S2 hp)] at e
            have e' := mid_mono (Nat.le_max_left n m) e
            obtain ⟨q, rfl⟩ := mid_quiet hq e
            refine ⟨Nat.max n m, _ :: tr, _ :: tr', F1, F1', h1, ?_, ?_, .cons (s := ⟨o, F2, h', true, none, v⟩) (s' := ⟨o, F', h', true, none, v⟩) ⟨rfl, S2, rfl, rfl, rfl, rfl, fun _ => hp⟩ c, d, by simpa using k⟩
            · simp only [traceOps]
              rw [hg]; simp only
              rw [q]; simp only
              rw [e3']; simp only
              rw [traceOps_mono (callF_mono (Nat.le_max_right n m)) a]
            · simp only [runOps]
              rw [step_mid hg e' e3']; simp only
              exact runOps_mono (callF_mono (Nat.le_max_right n m)) b
          · exact H.elim
      · exact H.elim
    · obtain ⟨F3, e3, H⟩ := kPut_ok H
      obtain ⟨F3', e3', S3⟩ := put_sub S2 e3
      obtain ⟨m, tr, tr', F1, F1', h1, a, b, c, d, k⟩ := kTr_ok H S3
      refine ⟨m, _ :: tr, _ :: tr', F1, F1', h1, ?_, ?_, .cons (s := ⟨o, F2, h, false, none, undef⟩) (s' := ⟨o, F', h, false, none, undef⟩) ⟨rfl, S2, rfl, rfl, rfl, rfl, fun e => (by cases e)⟩ c, d, by simpa using k⟩
      · simp only [traceOps]
        rw [hg]; simp only
        rw [e3']; simp only
        rw [a]
      · simp only [runOps]
        rw [step_skip hg e3']; simp only
        exact b

theorem acts_rel : ∀ {tr tr' : List St} {k : Nat}, TrR P tr tr' → acts k tr' = acts k tr
  | _, _, _, .nil => rfl
  | s :: tr, s' :: tr', k, .cons a b => by
    simp only [acts, a.act]
    cases s.act with
    | none => exact acts_rel b
    | some x => simp only; rw [acts_rel b]
theorem beqV_base {n : Nat} {v : Value} (hb : reflV.base v = true) : beqV n v v = true := by
  cases v <;> simp [reflV.base] at hb <;> simp [beqV] <;> first | done | (cases n <;> simp [beqV])
theorem beqV_goR {n : Nat} : ∀ {l : List Value}, reflV.go l = true → beqV.go n l l = true
  | [], _ => by simp [beqV.go]
  | v :: l, hb => by
    simp only [reflV.go, Bool.and_eq_true] at hb
    simp only [beqV.go, Bool.and_eq_true]
    exact ⟨beqV_base hb.1, beqV_goR hb.2⟩
theorem beqV_refl {v : Value} (hb : reflV v = true) : beqV 8 v v = true := by
  unfold reflV at hb
  split at hb
  · rw [beqV]; exact beqV_goR hb
  · exact beqV_base hb
theorem kFrom_ok {M : List Nat} {j own : Nat} {chk : AW → Prop → Prop} {check : AW → Bool} (hc : ∀ h K, chk h K → check h = true ∧ K) : ∀ {As : List (Nat × AW)} {cur : Nat} {h : AW} {K : Prop}, kFrom M j chk own cur h As K → chkFrom M j check own cur h As = true ∧ K
  | [], cur, h, K, H => by
    simp only [kFrom] at H
    simp only [chkFrom]
    split at H
    · rename_i e; rw [e]; exact ⟨rfl, H⟩
    · obtain ⟨a, b⟩ := hc _ _ H; rw [a]; exact ⟨by simp, b⟩
  | (i, h') :: l, cur, h, K, H => by
    simp only [kFrom] at H
    simp only [chkFrom]
    have rest : ∀ {G : Prop}, G = (match bef M j i with | true => K | false => kFrom M j chk own (cur + 1) h' l K) → G → (bef M j i || chkFrom M j check own (cur + 1) h' l) = true ∧ K := by
      intro G e g
      rw [e] at g
      split at g
      · rename_i e'; rw [e']; exact ⟨rfl, g⟩
      · obtain ⟨a, b⟩ := kFrom_ok hc g; rw [a]; exact ⟨by simp, b⟩
    split at H
    · rename_i e
      obtain ⟨a, b⟩ := rest rfl H
      rw [a]
      refine ⟨?_, b⟩
      rw [Bool.and_true, e, Bool.true_or]
    · obtain ⟨a, b⟩ := hc _ _ H
      obtain ⟨c, d⟩ := rest rfl b
      rw [a, c]
      exact ⟨by simp, d⟩
theorem kSt_ok {M : List Nat} {As : List (Nat × AW)} {own j : Nat} {s s' : St} {K : Prop} (R : StR P s s') (H : kSt P M h As own j s K) : stOk P M h As own j s' = true ∧ K := by
  unfold kSt at H
  unfold stOk
  rw [R.act, R.want, R.o, R.v]
  split at H
  · rename_i hact hw
    rw [hact, hw]
    simp only
    split at H
    · rename_i hl
      rw [hl]
      simp only [Bool.not_true, Bool.false_or]
      refine kFrom_ok (fun h K hk => ?_) H
      unfold kChk at hk
      split at hk
      · rename_i t x hv
        split at hk
        · rename_i hb
          obtain ⟨hx, hk⟩ := hk
          obtain ⟨v', h', e, rfl, k⟩ := kA_ok hk
          rw [← opV_sub (ev_all R.sub (R.pres hw))] at e
          obtain ⟨q, _⟩ := opV_quiet (chkOk_quiet hb) e
          rw [q]
          refine ⟨?_, k⟩
          simp only [hv, beqV]
          rw [Nat.beq_refl, beqV_base hx]
          rfl
        · exact hk.elim
      · split at hk
        · rename_i hb
          simp only [Bool.and_eq_true] at hb
          obtain ⟨v', h', e, rfl, k⟩ := kA_ok hk
          rw [← opV_sub (ev_all R.sub (R.pres hw))] at e
          obtain ⟨q, _⟩ := opV_quiet (chkOk_quiet hb.1) e
          rw [q]
          exact ⟨beqV_refl hb.2, k⟩
        · exact hk.elim
    · rename_i hl
      rw [hl]
      exact ⟨rfl, H⟩
  · rename_i hn
    refine ⟨?_, H⟩
    cases ha : s.act with
    | some x => rfl
    | none => cases hw : s.want with
      | false => rfl
      | true => exact (hn ha hw).elim
theorem kSts_ok {M : List Nat} {As : List (Nat × AW)} : ∀ {tr tr' : List St} {own j : Nat} {K : Prop}, TrR P tr tr' → kSts P M h As own j tr K → stsOk P M h As own j tr' = true ∧ K
  | _, _, own, j, K, .nil, H => ⟨rfl, H⟩
  | s :: tr, s' :: tr', own, j, K, .cons a b, H => by
    simp only [kSts] at H
    obtain ⟨h1, H⟩ := kSt_ok a H
    obtain ⟨h2, H⟩ := kSts_ok b H
    simp only [stsOk, Bool.and_eq_true]
    rw [a.act]
    exact ⟨⟨h1, h2⟩, H⟩
theorem kRegion_ok {id : Nat} {ops : Array Oper} {draw : Bool} {K : Fr → AW → Prop} (H : kRegion P ops.toList draw F h K) (S : Sub F F') : ∃ F1 F1' h1, Runs P (.region id ops draw) F' h .normal F1' h1 ∧ Sub F1 F1' ∧ K F1 h1 := by
  unfold kRegion at H
  split at H
  · obtain ⟨F1, F1', h1, a, b, c⟩ := kOps_ok H S
    exact ⟨F1, F1', h1, Runs.region a, b, c⟩
  · unfold kDrawn at H
    split at H
    · rename_i hs
      obtain ⟨n, tr, tr', F1, F1', h1, a, b, c, d, k⟩ := kTr_ok H S
      simp only [List.nil_append] at k
      split at k
      · rename_i hc
        obtain ⟨e, k⟩ := kSts_ok c k
        refine ⟨F1, F1', h1, ⟨n, 1, ?_⟩, d, k⟩
        simp only [run, runDrawn]
        rw [hs]; simp only
        rw [a]; simp only
        rw [acts_rel c, hc, e]
        rfl
      · exact k.elim
    · exact H.elim
end Go.Abs
end

section
/- Walks, seventh part: functions, and places in them. -/
namespace Go.Abs
variable {P : Program} {fn : Func} {ann : Nat → Option (List Nat)} {Q : Value → AW → Prop}

/-- Where a function's walk is cut, and what lives there. -/
def annOf : List (Nat × List Nat) → Nat → Option (List Nat)
  | [], _ => none
  | (i, l) :: r, j => match Nat.beq i j with | true => some l | false => annOf r j

theorem kRes_ok {F F' : Fr} {h : AW} (S : Sub F F') : ∀ {l : List ResultVar} {K : List Value → Prop}, kRes P F h l K → ∃ vs, resultL P F' h l = some vs ∧ K vs
  | [], K, H => ⟨[], rfl, H⟩
  | .tmp t :: l, K, H => by
    simp only [kRes] at H
    split at H
    · rename_i v hv
      obtain ⟨vs, e, k⟩ := kRes_ok S H
      refine ⟨v :: vs, ?_, k⟩
      simp only [resultL, resultV, S.t t v hv, e]
    · exact H.elim
  | .cell a t :: l, K, H => by
    simp only [kRes] at H
    split at H
    · rename_i p hp
      obtain ⟨v, e, H⟩ := kLoad_ok H
      obtain ⟨vs, e', k⟩ := kRes_ok S H
      refine ⟨v :: vs, ?_, k⟩
      simp only [resultL, resultV, S.t a p hp, e, e']
    · exact H.elim
theorem kRet_ok {F F' : Fr} {h : AW} (S : Sub F F') (H : kRet P fn Q F h) : ∃ v, finV P fn F' h = some v ∧ Q v h := by
  unfold kRet at H
  obtain ⟨vs, e, H⟩ := kRes_ok S H
  unfold finV
  rw [e]
  split at H
  · exact ⟨_, rfl, H⟩
  · rename_i hn
    refine ⟨_, ?_, H⟩
    match vs, hn with
    | [], _ => rfl
    | [v], hn => exact absurd rfl (hn v)
    | _ :: _ :: _, _ => rfl
theorem restS_ret {F : Fr} {h : AW} (H : ∃ v, finV P fn F h = some v ∧ Q v h) : ∀ (st : List Item), RestS P fn Q st .ret F h
  | [] => ⟨fun j e => (by cases e), H⟩
  | .seq c :: st => restS_ret H st
  | .block id :: st => restS_ret H st
  | .loop b :: st => restS_ret H st

theorem restC_seq {a b : Code} {st : List Item} {F : Fr} {h : AW} (H : RestC P fn Q a (.seq b :: st) F h) : RestC P fn Q (.seq a b) st F h := by
  obtain ⟨e, F1, h1, r, s⟩ := H
  cases e with
  | normal =>
    obtain ⟨e2, F2, h2, r2, s2⟩ := s
    exact ⟨e2, F2, h2, Runs.seq r r2, s2⟩
  | exit j => exact ⟨_, F1, h1, Runs.seq_out (fun e => by cases e) r, s⟩
  | ret => exact ⟨_, F1, h1, Runs.seq_out (fun e => by cases e) r, s⟩
theorem restC_loop {b : Code} {st : List Item} {F : Fr} {h : AW} (H : RestC P fn Q b (.loop b :: st) F h) : RestC P fn Q (.loop b) st F h := by
  obtain ⟨e, F1, h1, r, s⟩ := H
  cases e with
  | normal =>
    obtain ⟨e2, F2, h2, r2, s2⟩ := s
    exact ⟨e2, F2, h2, Runs.loop_on r r2, s2⟩
  | exit j => exact ⟨_, F1, h1, Runs.loop_out (fun e => by cases e) r, s⟩
  | ret => exact ⟨_, F1, h1, Runs.loop_out (fun e => by cases e) r, s⟩
theorem restC_block {id : Nat} {b : Code} {st : List Item} {F : Fr} {h : AW} (H : RestC P fn Q b (.block id :: st) F h) : RestC P fn Q (.block id b) st F h := by
  obtain ⟨e, F1, h1, r, s⟩ := H
  exact ⟨_, F1, h1, Runs.block r, s⟩

theorem kPop_ok {go : Code → List Item → Fr → AW → Prop} (hgo : ∀ c st F h, go c st F h → ∀ F', Sub F F' → RestC P fn Q c st F' h) {F F' : Fr} {h : AW} (S : Sub F F') (st : List Item) : kPop P fn Q go st F h → RestS P fn Q st .normal F' h := by
  induction st with
  | nil => exact fun H => ⟨fun j e => (by cases e), kRet_ok S H⟩
  | cons i st ih =>
    intro H
    cases i with
    | seq c => exact hgo _ _ _ _ H _ S
    | block j => exact ih H
    | loop b => exact restC_loop (hgo _ _ _ _ H _ S)
theorem kExit_ok {go : Code → List Item → Fr → AW → Prop} (hgo : ∀ c st F h, go c st F h → ∀ F', Sub F F' → RestC P fn Q c st F' h) {id : Nat} {F F' : Fr} {h : AW} (S : Sub F F') (st : List Item) : kExit P fn Q go id st F h → RestS P fn Q st (.exit id) F' h := by
  induction st with
  | nil => exact fun H => H.elim
  | cons i st ih =>
    intro H
    cases i with
    | seq c => exact ih H
    | block j =>
      simp only [kExit] at H
      simp only [RestS, outOf]
      split at H
      · rename_i e; rw [e]; exact kPop_ok hgo S st H
      · rename_i e; rw [e]; exact ih H
    | loop b => exact ih H
theorem getAll_spec {F : Fr} : ∀ {L : List Nat} {vs : List Value}, getAll F L = some vs → ∀ (j t : Nat), L[j]? = some t → F.t.get? t = vs[j]? ∧ (F.t.get? t).isSome = true
  | [], vs, _, j, t, ht => by simp at ht
  | t' :: L, vs, hg, j, t, ht => by
    simp only [getAll] at hg
    split at hg
    · rename_i v r h1 h2
      cases hg
      cases j with
      | zero => simp at ht; subst ht; simp [h1]
      | succ j => simp at ht ⊢; exact getAll_spec h2 j t ht
    · cases hg
theorem kRun_ok : ∀ (n : Nat) (c : Code) (st : List Item) (F : Fr) (h : AW), kRun P fn ann Q n c st F h → ∀ F', Sub F F' → RestC P fn Q c st F' h
  | 0, _, _, _, _, H, _, _ => H.elim
  | n + 1, c, st, F, h, H, F', S => by
    simp only [kRun] at H
    split at H
    · exact ⟨_, F', h, Runs.skip, kPop_ok (kRun_ok n) S _ H⟩
    · exact ⟨_, F', h, Runs.label, kPop_ok (kRun_ok n) S _ H⟩
    · split at H
      · rename_i L _
        split at H
        · rename_i vs hv hn
          refine H F' (by rw [← S.n]; exact Nat.eq_of_beq_eq_true hn) fun j t ht => ?_
          obtain ⟨a, b⟩ := getAll_spec hv j t ht
          rw [S.get b, a]
        · exact H.elim
      · obtain ⟨F1, F1', h1, r, S1, k⟩ := kRegion_ok H S
        exact ⟨_, F1', h1, r, kPop_ok (kRun_ok n) S1 _ k⟩
    · exact restC_seq (kRun_ok n _ _ _ _ H _ S)
    · unfold kCond at H
      split at H
      · split at H
        · rename_i t _ v hv
          obtain ⟨b, rfl, H⟩ := vBool_ok H
          have hv' := S.t _ _ hv
          rcases bC_ok H with ⟨rfl, H⟩ | ⟨rfl, H⟩
          · obtain ⟨e, F1, h1, r, s⟩ := kRun_ok n _ _ _ _ H _ (setB_sub S hv')
            exact ⟨e, F1, h1, Runs.cond_t (by simp only [Fr.ev, hv']) r, s⟩
          · obtain ⟨e, F1, h1, r, s⟩ := kRun_ok n _ _ _ _ H _ (setB_sub S hv')
            exact ⟨e, F1, h1, Runs.cond_f (by simp only [Fr.ev, hv']) r, s⟩
        · exact H.elim
      · obtain ⟨b, rfl, H⟩ := vBool_ok H
        rcases bC_ok H with ⟨rfl, H⟩ | ⟨rfl, H⟩
        · obtain ⟨e, F1, h1, r, s⟩ := kRun_ok n _ _ _ _ H _ S
          exact ⟨e, F1, h1, Runs.cond_t rfl r, s⟩
        · obtain ⟨e, F1, h1, r, s⟩ := kRun_ok n _ _ _ _ H _ S
          exact ⟨e, F1, h1, Runs.cond_f rfl r, s⟩
      · exact H.elim
    · exact restC_block (kRun_ok n _ _ _ _ H _ S)
    · exact restC_loop (kRun_ok n _ _ _ _ H _ S)
    · obtain ⟨e, F1, h1, r, s⟩ := kRun_ok n _ _ _ _ H _ S
      exact ⟨e, F1, h1, Runs.scope r, s⟩
    · exact ⟨_, F', h, Runs.exit, kExit_ok (kRun_ok n) S _ H⟩
    · exact ⟨_, F', h, Runs.ret, restS_ret (kRet_ok S H) st⟩
    · unfold kOver at H
      split at H
      · rename_i hp
        obtain ⟨f, a, b, e, H⟩ := vFun_ok H
        rcases bC_ok H with ⟨hb, H⟩ | ⟨_, H⟩
        · obtain ⟨v, h1, ev, k⟩ := H
          refine ⟨_, F', h1, Runs.over (f := f) (args := a.toList ++ ([.chan none] ++ b.toList)) ?_ hb ev, kPop_ok (kRun_ok n) S _ k⟩
          unfold overF target
          simp only [ev_all S hp _ (List.mem_singleton.2 rfl), e]
          rfl
        · exact H.elim
      · exact H.elim
    · exact H.elim

theorem frOf_get {n : Nat} : ∀ {L : List Nat} {vs : List Value} {T0 : T Value} {t : Nat} {v : Value}, L.length = vs.length → (frOf n L vs T0).t.get? t = some v → T0.get? t = some v ∨ ∃ j : Nat, L[j]? = some t ∧ vs[j]? = some v
  | [], [], T0, t, v, _, h => .inl h
  | t' :: L, v' :: vs, T0, t, v, hl, h => by
    simp only [frOf] at h
    rcases frOf_get (by simpa using hl) h with e | ⟨j, a, b⟩
    · rw [T.get?_set] at e
      split at e
      · rename_i e'; cases e; exact .inr ⟨0, by simp [e'], by simp⟩
      · exact .inl e
    · exact .inr ⟨j + 1, by simpa using a, by simpa using b⟩
  | [], _ :: _, _, _, _, hl, _ => by simp at hl
  | _ :: _, [], _, _, _, hl, _ => by simp at hl
theorem frOf_n {n : Nat} : ∀ {L : List Nat} {vs : List Value} {T0 : T Value}, (frOf n L vs T0).n = n
  | [], _, _ => by simp [frOf]
  | _ :: _, [], _ => by simp [frOf]
  | t' :: L, v' :: vs, T0 => by simp only [frOf]; exact frOf_n

/-- From a place on: its own region, and what follows. -/
theorem unit_ok {f id n : Nat} {L : List Nat} {vs : List Value} {h : AW} (H : kUnit P f id n ann L vs h Q) : unitAt P f id L vs h Q := by
  unfold kUnit at H
  unfold unitAt
  split at H
  · rename_i fn c hb
    try rw [hb]
    try simp only
    split at H
    · rename_i i ops d st hl
      try rw [hl]
      try simp only
      split at H
      · rename_i hlen
        intro F hn hF
        have S : Sub (frOf fn.ntmps L vs .nil) F := by
          refine ⟨by rw [frOf_n, hn], fun t v hv => ?_⟩
          rcases frOf_get (Nat.eq_of_beq_eq_true hlen) hv with e | ⟨j, a, b⟩
          · simp [T.get?] at e
          · rw [hF j t a, b]
        obtain ⟨F1, F1', h1, r, S1, k⟩ := kRegion_ok H S
        exact ⟨_, F1', h1, r, kPop_ok (kRun_ok n) S1 _ k⟩
      · exact H.elim
    · exact H.elim
  · exact H.elim

/-- A call of a function. -/
theorem fn_ok {f n : Nat} {args : List Value} {h : AW} (H : kFn P f n ann args h Q) : EvQ P f args h Q := by
  unfold kFn at H
  split at H
  · rename_i fn c hb
    split at H
    · rename_i hle
      obtain ⟨e, F1, h1, r, s⟩ := kRun_ok n _ _ _ _ H _ (Sub.refl _)
      obtain ⟨hx, v, hv, q⟩ := s
      refine ⟨v, h1, Evals.of_runs hb (e := e) (F' := F1) ?_ hx ?_, q⟩
      · rw [show Nat.max args.length fn.ntmps = fn.ntmps from Nat.max_eq_right (Nat.le_of_ble_eq_true hle)]; exact r
      · unfold finV at hv; exact hv
    · exact H.elim
  · exact H.elim
theorem own_ok {f n : Nat} {args : List Value} {h : AW} (H : kOwn P f n ann args h Q) : RunOwn P f args h Q := by
  unfold kOwn at H
  split at H
  · rename_i fn c hb
    split at H
    · rename_i hle
      obtain ⟨e, F1, h1, ⟨n, k, r⟩, s⟩ := kRun_ok n _ _ _ _ H _ (Sub.refl _)
      obtain ⟨hx, v, hv, q⟩ := s
      refine ⟨fn, c, e, F1, h1, v, n, k, hb, ?_, hx, ?_, q⟩
      · rw [show Nat.max args.length fn.ntmps = fn.ntmps from Nat.max_eq_right (Nat.le_of_ble_eq_true hle)]; exact r
      · unfold finV at hv; exact hv
    · exact H.elim
  · exact H.elim
/-! The same, the printed text's equation last. -/
theorem fo (L : List (Nat × List Nat)) {f : Nat} {args : List Value} {h : AW} {p : Prop} (H : p) (e : p = kFn P f 400 (annOf L) args h Q) : EvQ P f args h Q := fn_ok (e.mp H)
theorem oo (L : List (Nat × List Nat)) {f : Nat} {args : List Value} {h : AW} {p : Prop} (H : p) (e : p = kOwn P f 400 (annOf L) args h Q) : RunOwn P f args h Q := own_ok (e.mp H)
theorem uo (A : List (Nat × List Nat)) {f id : Nat} {L : List Nat} {vs : List Value} {h : AW} {p : Prop} (H : p) (e : p = kUnit P f id 400 (annOf A) L vs h Q) : unitAt P f id L vs h Q := unit_ok (e.mp H)
end Go.Abs
end

section
/- Printed bodies, run by the kernel. -/
namespace Go.Abs
abbrev CallP := FuncId → List Value → AW → (Value → AW → Prop) → Prop
abbrev UnitP := Nat → Nat → Nat → List Value → AW → (Value → AW → Prop) → Prop
/-- Names of temporaries, packed in a number. -/
def decF : Nat → Nat → List Nat
  | 0, _ => []
  | n + 1, c => match Nat.beq c 0 with
    | true => []
    | false => (c % 1024 - 1) :: decF n (c / 1024)
def decL (c : Nat) : List Nat := decF 64 c
section
variable (P : Program)
def CLe (C : CallP) : Prop := ∀ f a h Q, C f a h Q → EvQ P f a h Q
def DLe (D : UnitP) : Prop := ∀ f u c a h Q, D f u c a h Q → unitAt P f u (decL c) a h Q
/-- What an entry says: of a function (u is 0), or from a place in it on. -/
def GoalE (f u c : Nat) (a : List Value) (h : AW) (Q : Value → AW → Prop) : Prop :=
  match u with
  | 0 => EvQ P f a h Q
  | u + 1 => unitAt P f u (decL c) a h Q
structure Ent where
  f : Nat
  u : Nat
  c : Nat
  body : CallP → UnitP → List Value → AW → (Value → AW → Prop) → Prop
  ok : ∀ C D, CLe P C → DLe P D → ∀ a h Q, body C D a h Q → GoalE P f u c a h Q
end
variable {P : Program}
/-! Words. -/
theorem oB_imp {α : Type} {x : Option α} {f g : α → Prop} (h : ∀ a, f a → g a) : oB x f → oB x g := by
  unfold oB; cases x <;> simp_all
theorem bC_imp {c : Bool} {a b a' b' : Prop} (h : a → a') (k : b → b') : bC c a b → bC c a' b' := by
  unfold bC; cases c <;> simp_all
theorem qbm {v : Value} {f g : FuncId → List Value → List Value → Prop} (h : ∀ a b c, f a b c → g a b c) : vFun v f → vFun v g := by
  unfold vFun; split <;> first | exact h _ _ _ | exact id
/-! Values that are reckoned at once. -/
def forceN (n : Nat) (k : Nat → Prop) : Prop := Nat.rec (k 0) (fun m _ => k (m + 1)) n
theorem forceN_eq {n : Nat} {k : Nat → Prop} : forceN n k = k n := by cases n <;> rfl
def forceI (n : Int) (k : Int → Prop) : Prop := match n with
  | .ofNat m => forceN m fun m => k (.ofNat m)
  | .negSucc m => forceN m fun m => k (.negSucc m)
theorem forceI_eq {n : Int} {k : Int → Prop} : forceI n k = k n := by
  cases n with
  | ofNat m => exact forceN_eq (k := fun m => k (.ofNat m))
  | negSucc m => exact forceN_eq (k := fun m => k (.negSucc m))
theorem qaf {C : CallP} (hC : CLe P C) {f : FuncId} {a : List Value} {h : AW} {K K' : Value → AW → Prop} (hk : ∀ v h', K v h' → K' v h') : C f a h K → EvQ P f a h K' := fun H => (hC _ _ _ _ H).mono hk
theorem qag {D : UnitP} (hD : DLe P D) {f u c : Nat} {L : List Nat} {a : List Value} {h : AW} {Q : Value → AW → Prop} (e : decL c = L) : D f u c a h Q → unitAt P f u L a h Q := fun H => e ▸ hD _ _ _ _ _ _ H
/-! Two values that are one. -/
def addrB : Option Addr → Option Addr → Bool
  | none, none => true
  | some ⟨a, b, none⟩, some ⟨c, d, none⟩ => Nat.beq a c && Nat.beq b d
  | _, _ => false
theorem addrB_eq {p q : Option Addr} (h : addrB p q = true) : p = q := by
  unfold addrB at h
  split at h
  · rfl
  · simp only [Bool.and_eq_true] at h
    rw [Nat.eq_of_beq_eq_true h.1, Nat.eq_of_beq_eq_true h.2]
  · cases h
theorem bEqE {s t : ByteArray} (h : bEq s t = true) : s = t := by
  unfold bEq at h
  exact ByteArray.ext (Array.toList_inj.1 (by simpa using h))
def same1 : Value → Value → Bool
  | .slice a n c, .slice b m d => addrB a b && Nat.beq n m && Nat.beq c d
  | .pointer a, .pointer b => addrB a b
  | .int k n, .int l m => decide (k = l) && n == m
  | .bool a, .bool b => a == b
  | .string a, .string b => bEq a b
  | .nilIface, .nilIface => true
  | .map none, .map none => true
  | .map (some a), .map (some b) => Nat.beq a b
  | _, _ => false
theorem same1_eq {a b : Value} (h : same1 a b = true) : a = b := by
  unfold same1 at h
  split at h
  · simp only [Bool.and_eq_true] at h
    rw [addrB_eq h.1.1, Nat.eq_of_beq_eq_true h.1.2, Nat.eq_of_beq_eq_true h.2]
  · rw [addrB_eq h]
  · simp only [Bool.and_eq_true, decide_eq_true_eq, beq_iff_eq] at h
    rw [h.1, h.2]
  · rw [eq_of_beq h]
  · rw [bEqE h]
  · rfl
  · rfl
  · rw [Nat.eq_of_beq_eq_true h]
  · cases h
def sameL : List Value → List Value → Bool
  | [], [] => true
  | a :: l, b :: m => same1 a b && sameL l m
  | _, _ => false
theorem sameL_eq : ∀ {l m : List Value}, sameL l m = true → l = m
  | [], [], _ => rfl
  | a :: l, b :: m, h => by
    simp only [sameL, Bool.and_eq_true] at h
    rw [same1_eq h.1, sameL_eq h.2]
  | [], _ :: _, h => by cases h
  | _ :: _, [], h => by cases h
def sameB : Value → Value → Bool
  | .agg ⟨l⟩, .agg ⟨m⟩ => sameL l m
  | .iface a v, .iface b w => Nat.beq a b && same1 v w
  | a, b => same1 a b
theorem sameB_eq {a b : Value} (h : sameB a b = true) : a = b := by
  unfold sameB at h
  split at h
  · rw [sameL_eq h]
  · simp only [Bool.and_eq_true] at h
    rw [Nat.eq_of_beq_eq_true h.1, same1_eq h.2]
  · exact same1_eq h
theorem same_imp {a b : Value} {p q : Prop} (h : p → q) : bC (sameB a b) p False → a = b ∧ q := by
  intro H
  rcases bC_ok H with ⟨e, H⟩ | ⟨_, H⟩
  · exact ⟨sameB_eq e, h H⟩
  · exact H.elim
theorem true_imp {a : Bool} {p q : Prop} (h : p → q) : bC a p False → a = true ∧ q := by
  intro H
  rcases bC_ok H with ⟨e, H⟩ | ⟨_, H⟩
  · exact ⟨e, h H⟩
  · exact H.elim
end Go.Abs
end

section
/- Reasoning about the heap: what is owned, what stays. -/
namespace Go.Abs

/-! Words on what is known. -/
section
variable {α : Type}
@[simp] theorem oB_some {a : α} {f : α → Prop} : oB (some a) f = f a := rfl
@[simp] theorem oB_none {f : α → Prop} : oB none f = False := rfl
@[simp] theorem oP_some {v : Value} {h : AW} {f : Value → AW → Prop} : oP (some (v, h)) f = f v h := rfl
@[simp] theorem bC_true {p q : Prop} : bC true p q = p := rfl
@[simp] theorem bC_false {p q : Prop} : bC false p q = q := rfl
@[simp] theorem vInt_int {k : IntKind} {n : Int} {f : Int → Prop} : vInt k (.int k n) f = f n := by
  unfold vInt
  simp
@[simp] theorem vBool_bool {b : Bool} {f : Bool → Prop} : vBool (.bool b) f = f b := rfl
@[simp] theorem vStr_string {s : ByteArray} {f : ByteArray → Prop} : vStr (.string s) f = f s := rfl
@[simp] theorem vPtr_pointer {p : Option Addr} {f : Option Addr → Prop} : vPtr (.pointer p) f = f p := rfl
@[simp] theorem vSl_slice {a : Option Addr} {l c : Nat} {f : Option Addr → Nat → Nat → Prop} : vSl (.slice a l c) f = f a l c := rfl
@[simp] theorem vMap_map {r : Option Nat} {f : Option Nat → Prop} : vMap (.map r) f = f r := rfl
@[simp] theorem vFun_func {i : FuncId} {a b : Array Value} {f : FuncId → List Value → List Value → Prop} : vFun (.func (.func i) a b) f = f i a.toList b.toList := rfl
@[simp] theorem vAgg_agg {a : Array Value} {f : List Value → Prop} : vAgg (.agg a) f = f a.toList := rfl
@[simp] theorem vIfc_nil {p : Prop} {f : TypeId → Value → Prop} : vIfc .nilIface p f = p := rfl
@[simp] theorem vIfc_iface {p : Prop} {f : TypeId → Value → Prop} {t : TypeId} {x : Value} : vIfc (.iface t x) p f = f t x := rfl
@[simp] theorem vTup_tuple {a : Array Value} {f : List Value → Prop} : vTup (.tuple a) f = f a.toList := rfl
@[simp] theorem lC_cons {v : Value} {l : List Value} {f : Value → List Value → Prop} : lC (v :: l) f = f v l := rfl
@[simp] theorem lN_nil {p : Prop} : lN [] p = p := rfl
@[simp] theorem aP_some {i off : Nat} {f : Nat → Nat → Prop} : aP (some ⟨i, off, none⟩) f = f i off := rfl
@[simp] theorem shO_none {n : Nat} : shO none n = some none := rfl
@[simp] theorem shO_some {i off n : Nat} : shO (some ⟨i, off, none⟩) n = some (some ⟨i, off + n, none⟩) := rfl
end
theorem bEq_iff {x y : ByteArray} : bEq x y = true ↔ x = y := by
  unfold bEq
  rw [beq_iff_eq]
  refine ⟨fun h => ?_, fun h => by rw [h]⟩
  apply ByteArray.ext
  exact Array.ext' h
@[simp] theorem bEq_self {x : ByteArray} : bEq x x = true := bEq_iff.2 rfl
theorem wrap_small {n : Int} (h1 : -9223372036854775808 ≤ n) (h2 : n < 9223372036854775808) : IntKind.wrap .i64 n = n := by
  unfold IntKind.wrap
  simp [IntKind.signed, IntKind.bits]
  omega

/-! What stays. -/
/-- Each number's mark: to whom it belongs. -/
abbrev Paint := Nat → Nat

variable {S S' : Nat → Prop} {h h' h'' : AW} {μ μ' μ'' : Paint}
end Go.Abs
end

section
/- Slices that are owned: written, cut, appended to. -/
namespace Go.Abs
variable {S : Nat → Prop} {h h' : AW} {μ μ' : Paint} {c : Nat} {P : Program}

def Kind (h : AW) (μ : Paint) (c i off cap sz : Nat) : Prop :=
  (∃ t n ro, h.objs.get? i = some (.var t n ro) ∧ off + cap * sz ≤ n ∧ (ro = true → cap = 0)) ∨
  (∃ f g lo hi t ext frz, h.objs.get? i = some (.row f g lo hi sz t) ∧ h.fams.get? f = some ⟨g, ext, frz⟩ ∧ f < h.next ∧ μ f = c ∧ lo ≤ off ∧ off + cap * sz = hi ∧ frz ≤ lo)

variable {a : Option Addr} {cap sz : Nat} {vs : List Value}
end Go.Abs
end

section
/- Fresh colours. -/
namespace Go.Abs
variable {S : Nat → Prop} {h h' : AW} {μ μ' : Paint} {c : Nat} {P : Program} {a : Option Addr} {cap sz : Nat} {vs : List Value}

/-- A colour that nothing bears as yet. -/
def Fresh (h : AW) (μ : Paint) (c : Nat) : Prop := ∀ i, i < h.next → μ i ≠ c
end Go.Abs
end

section
/- Named pieces of the heap: what is owned, piece by piece. -/
namespace Go.Abs
variable {S : Nat → Prop} {h h' : AW} {μ μ' : Paint} {P : Program}

inductive Res where
  | var (i : Nat) (l : List Value)
  | sl (a : Option Addr) (cap sz : Nat) (l : List Value)
  | map (i : Nat) (es : List (Value × Value))
  | ro (vs : List (Option Addr × List Value))
  | many (vs : List (Option Addr × Nat × Nat × List Value))
  | bag (vs : List (Option Addr × Nat × Nat × Nat))
  | ty (i : Nat) (t : TypeId)

/-- The family of a row. -/
def famOf (h : AW) (i : Nat) : Option Nat := match h.objs.get? i with
  | some (.row f _ _ _ _ _) => some f
  | _ => none
/-- Names of pieces. -/
abbrev Store := Nat → Option Res
variable {ρ ρ' : Store} {c : Nat}
end Go.Abs
end

section
/- Lists of blocks of equal length; small words on strings and slices. -/
namespace Go.Abs

section
variable {α β : Type} {f : α → List β} {sz : Nat}
end

abbrev Str := ByteArray
abbrev e0 : Str := ⟨#[]⟩
abbrev strs (l : List Str) : List Value := l.map Value.string
def memB (s : Str) (x : List Str) : Bool := x.any fun t => bEq s t
theorem memB_iff {s : Str} {x : List Str} : memB s x = true ↔ s ∈ x := by
  unfold memB
  rw [List.any_eq_true]
  exact ⟨fun ⟨t, ht, e⟩ => by rw [bEq_iff.1 e]; exact ht, fun h => ⟨s, h, bEq_self⟩⟩
instance decMemStr (s : ByteArray) (x : List ByteArray) : Decidable (s ∈ x) := decidable_of_iff (memB s x = true) memB_iff
end Go.Abs
end
