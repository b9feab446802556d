/- A deterministic heap for the model, proved sound, and walks of the program over it: part 4. No condition. -/
import Derived.Test.YtgdkekdedgkglaaDoorAb1
import Derived.Test.YtgdkekdedgkglaaDoorAb2
import Derived.Test.YtgdkekdedgkglaaDoorAb3
set_option linter.unusedVariables false
set_option linter.unusedSimpArgs false
set_option linter.unusedSectionVars false
section
/- Walks, sixth part: regions and code are right. -/
namespace Go.Abs
variable {P : Program} {F F' : Fr} {h : AW}

theorem castO_ok {t : TypeId} {v : Value} {K : Value → Prop} (H : castO P t v K) : K v := by
  unfold castO at H
  split at H
  · split at H
    · exact H
    · obtain ⟨cs, rfl, H⟩ := vTup_ok H
      exact castRgo_ok H
  · exact H
  · exact castT_ok H
  · exact H

/-- The middle of a step. -/
def Mid (P : Program) (n : Nat) (o : Op) (F : Fr) (h : AW) : Option (Value × AW) :=
  match o with
  | .call { callee := .value f, args, argTypes } => match target F { callee := .value f, args, argTypes } with
    | some (f, args) => callF P n f args h
    | none => none
  | op => opV P F h op

theorem opV_call {f : Operand} {args : Array Operand} {ats : Array TypeId} : opV P F h (.call { callee := .value f, args, argTypes := ats }) = none := rfl
theorem mid_opV {o : Op} {n : Nat} {r : Value × AW} (e : opV P F h o = some r) : Mid P n o F h = some r := by
  unfold Mid
  split
  · rw [opV_call] at e; cases e
  · exact e
theorem kOp_ok {o : Op} {t : TypeId} {K : Value → AW → Prop} (H : kOp P o t F h K) : ∃ v h', (∃ n, Mid P n o F h = some (v, h')) ∧ K v h' := by
  unfold kOp at H
  split at H
  · rename_i f args ats
    have H' := vFun_ok H; clear H; obtain ⟨g, a, b, e, v, h', ⟨n, ev⟩, H⟩ := H'
    refine ⟨v, h', ⟨n, ?_⟩, castO_ok H⟩
    unfold Mid target
    simp only [e]
    exact ev
  · have H' := kA_ok H; clear H; obtain ⟨v, h', e, H⟩ := H'
    exact ⟨v, h', ⟨0, mid_opV e⟩, H⟩
theorem mid_sub {o : Op} {n : Nat} (H : ∀ x, x ∈ o.operands.toList → F'.ev x = F.ev x) : Mid P n o F' h = Mid P n o F h := by
  unfold Mid
  split
  · rw [target_sub H]
  · exact opV_sub H
theorem mid_mono {o : Op} {n m : Nat} (hnm : n ≤ m) {r : Value × AW} (e : Mid P n o F h = some r) : Mid P m o F h = some r := by
  unfold Mid at e ⊢
  split at e
  · split at e
    · rename_i ht
      exact callF_mono hnm _ _ _ _ e
    · cases e
  · exact e
theorem step_mid {ops : List Oper} {o : Oper} {n : Nat} {v : Value} {h' : AW} {F1 : Fr} (hg : guardOk ops F o = some true) (e : Mid P n o.op F h = some (v, h')) (hp : F.put o.dst v = some F1) : stepOp P (callF P n) ops o F h = some (F1, h') := by
  unfold stepOp
  rw [hg]
  simp only
  unfold Mid at e
  split at e
  · rename_i f args ats hop
    rw [hop]
    simp only
    split at e
    · rename_i ht
      rw [ht]; simp only; rw [e]; simp only; rw [hp]
    · cases e
  · rename_i hop
    split
    · rename_i v1 h1 hx
      split at hx
      · rename_i f args ats ho; exact (hop _ _ _ ho).elim
      · rw [e] at hx; cases hx; rw [hp]
    · rename_i hx
      split at hx
      · rename_i f args ats ho; exact (hop _ _ _ ho).elim
      · rw [e] at hx; cases hx
theorem step_skip {ops : List Oper} {o : Oper} {n : Nat} {F1 : Fr} (hg : guardOk ops F o = some false) (hp : F.put o.dst undef = some F1) : stepOp P (callF P n) ops o F h = some (F1, h) := by
  unfold stepOp
  rw [hg]
  simp only
  rw [hp]

theorem kPut_ok {d : Option Tmp} {v : Value} {K : Fr → Prop} (H : kPut F d v K) : ∃ F1, F.put d v = some F1 ∧ K F1 := by
  unfold kPut at H
  split at H
  · rename_i F1 e; exact ⟨F1, e, H⟩
  · exact H.elim
theorem setB_sub (S : Sub F F') {t : Nat} {b : Bool} (e : F'.t.get? t = some (.bool b)) : Sub (setB F t b) F' := by
  refine ⟨S.n, fun t' v hv => ?_⟩
  simp only [setB] at hv
  rw [T.get?_set] at hv
  split at hv
  · rename_i e'; subst e'; cases hv; exact e
  · exact S.t t' v hv
theorem kGuard_ok {ops : List Oper} {o : Oper} {yes no : Fr → Prop} (H : kGuard ops F o.guard yes no) (S : Sub F F') :
    ∃ F2, Sub F2 F' ∧ ((guardOk ops F' o = some true ∧ yes F2) ∨ (guardOk ops F' o = some false ∧ no F2)) := by
  unfold kGuard at H
  unfold guardOk
  split at H
  · rename_i hg
    exact ⟨F, S, .inl ⟨by rw [hg], H⟩⟩
  · rename_i j want hg
    rw [hg]; simp only
    split at H
    · rename_i oj hj
      rw [hj]; simp only
      split at H
      · rename_i d hd
        rw [hd]; simp only
        split at H
        · rename_i v hv
          have hv' := S.t d v hv
          rw [hv']
          split at H
          · exact ⟨F, S, .inr ⟨rfl, H⟩⟩
          · obtain ⟨b, rfl, H⟩ := vBool_ok H
            rcases bC_ok H with ⟨rfl, H⟩ | ⟨rfl, H⟩
            · refine ⟨_, setB_sub S hv', ?_⟩
              cases want with
              | true => exact .inl ⟨rfl, H⟩
              | false => exact .inr ⟨rfl, H⟩
            · refine ⟨_, setB_sub S hv', ?_⟩
              cases want with
              | true => exact .inr ⟨rfl, H⟩
              | false => exact .inl ⟨rfl, H⟩
        · exact H.elim
      · exact H.elim
    · exact H.elim

theorem kOps_ok {ops : List Oper} : ∀ {l : List Oper} {F F' : Fr} {h : AW} {K : Fr → AW → Prop}, kOps P ops l F h K → Sub F F' → ∃ F1 F1' h1, Opss P ops l F' h F1' h1 ∧ Sub F1 F1' ∧ K F1 h1
  | [], F, F', h, K, H, S => ⟨F, F', h, Opss.nil, S, H⟩
  | o :: l, F, F', h, K, H, S => by
    simp only [kOps] at H
    obtain ⟨F2, S2, ⟨hg, H⟩ | ⟨hg, H⟩⟩ := kGuard_ok H S
    · split at H
      · rename_i hp
        obtain ⟨v, h', ⟨n, e⟩, H⟩ := kOp_ok H
        obtain ⟨F3, e3, H⟩ := kPut_ok H
        obtain ⟨F3', e3', S3⟩ := put_sub S2 e3
        obtain ⟨F1, F1', h1, a, b, c⟩ := kOps_ok H S3
        refine ⟨F1, F1', h1, Opss.cons ⟨n, step_mid hg ?_ e3'⟩ a, b, c⟩
        rw [mid_sub (ev_all S2 hp)]; exact e
      · exact H.elim
    · obtain ⟨F3, e3, H⟩ := kPut_ok H
      obtain ⟨F3', e3', S3⟩ := put_sub S2 e3
      obtain ⟨F1, F1', h1, a, b, c⟩ := kOps_ok H S3
      exact ⟨F1, F1', h1, Opss.cons ⟨0, step_skip hg e3'⟩ a, b, c⟩

/-! Drawn regions. -/
theorem actish2_none {o : Op} (ho : actish2 o = true) : opQ P F h o = none := by
  cases o <;> first | rfl | (simp [actish2] at ho; done) | skip
  · rename_i t x lo hi mx
    cases mx with
    | none => simp [actish2] at ho
    | some m => rfl
  · rename_i c
    obtain ⟨cal, args, ats⟩ := c
    cases cal with
    | builtin b => cases b <;> first | rfl | (simp [actish2] at ho; done)
    | _ => rfl
theorem quietish_none {o : Op} (ho : quietish o = true) : opA P F h o = none := by
  cases o <;> first | rfl | (simp [quietish, actish2] at ho; done) | skip
  · rename_i t x lo hi mx
    cases mx with
    | none => rfl
    | some m => simp [quietish, actish2] at ho
  · rename_i c
    obtain ⟨cal, args, ats⟩ := c
    cases cal with
    | builtin b => cases b <;> first | rfl | (simp [quietish, actish2] at ho; done)
    | _ => simp [quietish, actish2] at ho
theorem opV_quiet {o : Op} (ho : quietish o = true) {v : Value} {h' : AW} (e : opV P F h o = some (v, h')) : opQ P F h o = some v ∧ h' = h := by
  unfold opV at e
  split at e
  · rename_i v' hq; cases e; exact ⟨hq, rfl⟩
  · rw [quietish_none ho] at e; cases e
theorem chkOk_quiet {o : Op} (ho : chkOk o = true) : quietish o = true := by
  cases o <;> first | rfl | (simp [chkOk] at ho; done) | skip
  · rename_i t x lo hi mx
    cases mx with
    | none => rfl
    | some m => simp [chkOk] at ho
  · rename_i c
    obtain ⟨cal, args, ats⟩ := c
    cases cal with
    | builtin b => cases b <;> first | rfl | (simp [chkOk] at ho; done)
    | _ => simp [chkOk] at ho
theorem mid_quiet {o : Op} {n : Nat} (ho : quietish o = true) {v : Value} {h' : AW} (e : Mid P n o F h = some (v, h')) : opQ P F h o = some v ∧ h' = h := by
  unfold Mid at e
  split at e
  · simp [quietish, actish2] at ho
  · exact opV_quiet ho e
theorem mid_act {o : Oper} {n : Nat} (ho : actish2 o.op = true) {r : Value × AW} (e : Mid P n o.op F h = some r) : actV P (callF P n) F h o = some r := by
  unfold Mid at e
  unfold actV
  split at e
  · rename_i f args ats hop; rw [hop]; simp only; exact e
  · rename_i hop
    unfold opV at e
    rw [actish2_none ho] at e
    simp only at e
    split
    · rename_i f args ats ho'; exact (hop _ _ _ ho').elim
    · exact e

structure StR (P : Program) (s s' : St) : Prop where
  o : s'.o = s.o
  sub : Sub s.F s'.F
  h : s'.h = s.h
  want : s'.want = s.want
  act : s'.act = s.act
  v : s'.v = s.v
  pres : s.want = true → present s.F s.o.op.operands.toList = true
inductive TrR (P : Program) : List St → List St → Prop where
  | nil : TrR P [] []
  | cons {s s' : St} {l l' : List St} : StR P s s' → TrR P l l' → TrR P (s :: l) (s' :: l')

theorem kTr_ok {ops : List Oper} : ∀ {l : List Oper} {F F' : Fr} {h : AW} {tr0 : List St} {K : List St → Fr → AW → Prop}, kTr P ops l F h tr0 K → Sub F F' →
    ∃ n tr tr' F1 F1' h1, traceOps P (callF P n) ops l F' h = some (tr', F1', h1) ∧ runOps P (callF P n) ops l F' h = some (F1', h1) ∧ TrR P tr tr' ∧ Sub F1 F1' ∧ K (tr0 ++ tr) F1 h1
  | [], F, F', h, tr0, K, H, S => ⟨0, [], [], F, F', h, rfl, rfl, .nil, S, by simpa [kTr] using H⟩
  | o :: l, F, F', h, tr0, K, H, S => by
    simp only [kTr] at H
    obtain ⟨F2, S2, ⟨hg, H⟩ | ⟨hg, H⟩⟩ := kGuard_ok H S
    · split at H
      · rename_i hp
        split at H
        · rename_i ha
          obtain ⟨v, h', ⟨n, e⟩, H⟩ := kOp_ok H
          obtain ⟨F3, e3, H⟩ := kPut_ok H
          obtain ⟨F3', e3', S3⟩ := put_sub S2 e3
          obtain ⟨m, tr, tr', F1, F1', h1, a, b, c, d, k⟩ := kTr_ok H S3
          rw [← mid_sub (ev_all S2 hp)] at e
          have e' := mid_mono (Nat.le_max_left n m) e
          refine ⟨Nat.max n m, _ :: tr, _ :: tr', F1, F1', h1, ?_, ?_, .cons (s := ⟨o, F2, h, true, some h', v⟩) (s' := ⟨o, F', h, true, some h', v⟩) ⟨rfl, S2, rfl, rfl, rfl, rfl, fun _ => hp⟩ c, d, by simpa using k⟩
          · simp only [traceOps]
            rw [hg]; simp only
            rw [actish2_none ha]; simp only
            rw [mid_act ha e']; simp only
            rw [e3']; simp only
            rw [traceOps_mono (callF_mono (Nat.le_max_right n m)) a]
          · simp only [runOps]
            rw [step_mid hg e' e3']; simp only
            exact runOps_mono (callF_mono (Nat.le_max_right n m)) b
        · split at H
          · rename_i hq
            obtain ⟨v, h', ⟨n, e⟩, H⟩ := kOp_ok H
            obtain ⟨F3, e3, H⟩ := kPut_ok H
            obtain ⟨F3', e3', S3⟩ := put_sub S2 e3
            obtain ⟨m, tr, tr', F1, F1', h1, a, b, c, d, k⟩ := kTr_ok H S3
            rw [← mid_sub (ev_all S2 hp)] at e
            have e' := mid_mono (Nat.le_max_left n m) e
            obtain ⟨q, rfl⟩ := mid_quiet hq e
            refine ⟨Nat.max n m, _ :: tr, _ :: tr', F1, F1', h1, ?_, ?_, .cons (s := ⟨o, F2, h', true, none, v⟩) (s' := ⟨o, F', h', true, none, v⟩) ⟨rfl, S2, rfl, rfl, rfl, rfl, fun _ => hp⟩ c, d, by simpa using k⟩
            · simp only [traceOps]
              rw [hg]; simp only
              rw [q]; simp only
              rw [e3']; simp only
              rw [traceOps_mono (callF_mono (Nat.le_max_right n m)) a]
            · simp only [runOps]
              rw [step_mid hg e' e3']; simp only
              exact runOps_mono (callF_mono (Nat.le_max_right n m)) b
          · exact H.elim
      · exact H.elim
    · obtain ⟨F3, e3, H⟩ := kPut_ok H
      obtain ⟨F3', e3', S3⟩ := put_sub S2 e3
      obtain ⟨m, tr, tr', F1, F1', h1, a, b, c, d, k⟩ := kTr_ok H S3
      refine ⟨m, _ :: tr, _ :: tr', F1, F1', h1, ?_, ?_, .cons (s := ⟨o, F2, h, false, none, undef⟩) (s' := ⟨o, F', h, false, none, undef⟩) ⟨rfl, S2, rfl, rfl, rfl, rfl, fun e => (by cases e)⟩ c, d, by simpa using k⟩
      · simp only [traceOps]
        rw [hg]; simp only
        rw [e3']; simp only
        rw [a]
      · simp only [runOps]
        rw [step_skip hg e3']; simp only
        exact b

theorem acts_rel : ∀ {tr tr' : List St} {k : Nat}, TrR P tr tr' → acts k tr' = acts k tr
  | _, _, _, .nil => rfl
  | s :: tr, s' :: tr', k, .cons a b => by
    simp only [acts, a.act]
    cases s.act with
    | none => exact acts_rel b
    | some x => simp only; rw [acts_rel b]
theorem beqV_base {n : Nat} {v : Value} (hb : reflV.base v = true) : beqV n v v = true := by
  cases v <;> simp [reflV.base] at hb <;> simp [beqV] <;> first | done | (cases n <;> simp [beqV])
theorem beqV_goR {n : Nat} : ∀ {l : List Value}, reflV.go l = true → beqV.go n l l = true
  | [], _ => by simp [beqV.go]
  | v :: l, hb => by
    simp only [reflV.go, Bool.and_eq_true] at hb
    simp only [beqV.go, Bool.and_eq_true]
    exact ⟨beqV_base hb.1, beqV_goR hb.2⟩
theorem beqV_refl {v : Value} (hb : reflV v = true) : beqV 8 v v = true := by
  unfold reflV at hb
  split at hb
  · rw [beqV]; exact beqV_goR hb
  · exact beqV_base hb
theorem kFrom_ok {M : List Nat} {j own : Nat} {chk : AW → Prop → Prop} {check : AW → Bool} (hc : ∀ h K, chk h K → check h = true ∧ K) : ∀ {As : List (Nat × AW)} {cur : Nat} {h : AW} {K : Prop}, kFrom M j chk own cur h As K → chkFrom M j check own cur h As = true ∧ K
  | [], cur, h, K, H => by
    simp only [kFrom] at H
    simp only [chkFrom]
    split at H
    · rename_i e; rw [e]; exact ⟨rfl, H⟩
    · obtain ⟨a, b⟩ := hc _ _ H; rw [a]; exact ⟨by simp, b⟩
  | (i, h') :: l, cur, h, K, H => by
    simp only [kFrom] at H
    simp only [chkFrom]
    have rest : ∀ {G : Prop}, G = (match bef M j i with | true => K | false => kFrom M j chk own (cur + 1) h' l K) → G → (bef M j i || chkFrom M j check own (cur + 1) h' l) = true ∧ K := by
      intro G e g
      rw [e] at g
      split at g
      · rename_i e'; rw [e']; exact ⟨rfl, g⟩
      · obtain ⟨a, b⟩ := kFrom_ok hc g; rw [a]; exact ⟨by simp, b⟩
    split at H
    · rename_i e
      obtain ⟨a, b⟩ := rest rfl H
      rw [a]
      refine ⟨?_, b⟩
      rw [Bool.and_true, e, Bool.true_or]
    · obtain ⟨a, b⟩ := hc _ _ H
      obtain ⟨c, d⟩ := rest rfl b
      rw [a, c]
      exact ⟨by simp, d⟩
theorem kSt_ok {M : List Nat} {As : List (Nat × AW)} {own j : Nat} {s s' : St} {K : Prop} (R : StR P s s') (H : kSt P M h As own j s K) : stOk P M h As own j s' = true ∧ K := by
  unfold kSt at H
  unfold stOk
  rw [R.act, R.want, R.o, R.v]
  split at H
  · rename_i hact hw
    rw [hact, hw]
    simp only
    split at H
    · rename_i hl
      rw [hl]
      simp only [Bool.not_true, Bool.false_or]
      refine kFrom_ok (fun h K hk => ?_) H
      unfold kChk at hk
      split at hk
      · rename_i t x hv
        split at hk
        · rename_i hb
          obtain ⟨hx, hk⟩ := hk
          obtain ⟨v', h', e, rfl, k⟩ := kA_ok hk
          rw [← opV_sub (ev_all R.sub (R.pres hw))] at e
          obtain ⟨q, _⟩ := opV_quiet (chkOk_quiet hb) e
          rw [q]
          refine ⟨?_, k⟩
          simp only [hv, beqV]
          rw [Nat.beq_refl, beqV_base hx]
          rfl
        · exact hk.elim
      · split at hk
        · rename_i hb
          simp only [Bool.and_eq_true] at hb
          obtain ⟨v', h', e, rfl, k⟩ := kA_ok hk
          rw [← opV_sub (ev_all R.sub (R.pres hw))] at e
          obtain ⟨q, _⟩ := opV_quiet (chkOk_quiet hb.1) e
          rw [q]
          exact ⟨beqV_refl hb.2, k⟩
        · exact hk.elim
    · rename_i hl
      rw [hl]
      exact ⟨rfl, H⟩
  · rename_i hn
    refine ⟨?_, H⟩
    cases ha : s.act with
    | some x => rfl
    | none => cases hw : s.want with
      | false => rfl
      | true => exact (hn ha hw).elim
theorem kSts_ok {M : List Nat} {As : List (Nat × AW)} : ∀ {tr tr' : List St} {own j : Nat} {K : Prop}, TrR P tr tr' → kSts P M h As own j tr K → stsOk P M h As own j tr' = true ∧ K
  | _, _, own, j, K, .nil, H => ⟨rfl, H⟩
  | s :: tr, s' :: tr', own, j, K, .cons a b, H => by
    simp only [kSts] at H
    obtain ⟨h1, H⟩ := kSt_ok a H
    obtain ⟨h2, H⟩ := kSts_ok b H
    simp only [stsOk, Bool.and_eq_true]
    rw [a.act]
    exact ⟨⟨h1, h2⟩, H⟩
theorem kRegion_ok {id : Nat} {ops : Array Oper} {draw : Bool} {K : Fr → AW → Prop} (H : kRegion P ops.toList draw F h K) (S : Sub F F') : ∃ F1 F1' h1, Runs P (.region id ops draw) F' h .normal F1' h1 ∧ Sub F1 F1' ∧ K F1 h1 := by
  unfold kRegion at H
  split at H
  · obtain ⟨F1, F1', h1, a, b, c⟩ := kOps_ok H S
    exact ⟨F1, F1', h1, Runs.region a, b, c⟩
  · unfold kDrawn at H
    split at H
    · rename_i hs
      obtain ⟨n, tr, tr', F1, F1', h1, a, b, c, d, k⟩ := kTr_ok H S
      simp only [List.nil_append] at k
      split at k
      · rename_i hc
        obtain ⟨e, k⟩ := kSts_ok c k
        refine ⟨F1, F1', h1, ⟨n, 1, ?_⟩, d, k⟩
        simp only [run, runDrawn]
        rw [hs]; simp only
        rw [a]; simp only
        rw [acts_rel c, hc, e]
        rfl
      · exact k.elim
    · exact H.elim
end Go.Abs
end

section
/- Walks, seventh part: functions, and places in them. -/
namespace Go.Abs
variable {P : Program} {fn : Func} {ann : Nat → Option (List Nat)} {Q : Value → AW → Prop}

/-- Where a function's walk is cut, and what lives there. -/
def annOf : List (Nat × List Nat) → Nat → Option (List Nat)
  | [], _ => none
  | (i, l) :: r, j => match Nat.beq i j with | true => some l | false => annOf r j

theorem kRes_ok {F F' : Fr} {h : AW} (S : Sub F F') : ∀ {l : List ResultVar} {K : List Value → Prop}, kRes P F h l K → ∃ vs, resultL P F' h l = some vs ∧ K vs
  | [], K, H => ⟨[], rfl, H⟩
  | .tmp t :: l, K, H => by
    simp only [kRes] at H
    split at H
    · rename_i v hv
      obtain ⟨vs, e, k⟩ := kRes_ok S H
      refine ⟨v :: vs, ?_, k⟩
      simp only [resultL, resultV, S.t t v hv, e]
    · exact H.elim
  | .cell a t :: l, K, H => by
    simp only [kRes] at H
    split at H
    · rename_i p hp
      obtain ⟨v, e, H⟩ := kLoad_ok H
      obtain ⟨vs, e', k⟩ := kRes_ok S H
      refine ⟨v :: vs, ?_, k⟩
      simp only [resultL, resultV, S.t a p hp, e, e']
    · exact H.elim
theorem kRet_ok {F F' : Fr} {h : AW} (S : Sub F F') (H : kRet P fn Q F h) : ∃ v, finV P fn F' h = some v ∧ Q v h := by
  unfold kRet at H
  obtain ⟨vs, e, H⟩ := kRes_ok S H
  unfold finV
  rw [e]
  split at H
  · exact ⟨_, rfl, H⟩
  · rename_i hn
    refine ⟨_, ?_, H⟩
    match vs, hn with
    | [], _ => rfl
    | [v], hn => exact absurd rfl (hn v)
    | _ :: _ :: _, _ => rfl
theorem restS_ret {F : Fr} {h : AW} (H : ∃ v, finV P fn F h = some v ∧ Q v h) : ∀ (st : List Item), RestS P fn Q st .ret F h
  | [] => ⟨fun j e => (by cases e), H⟩
  | .seq c :: st => restS_ret H st
  | .block id :: st => restS_ret H st
  | .loop b :: st => restS_ret H st

theorem restC_seq {a b : Code} {st : List Item} {F : Fr} {h : AW} (H : RestC P fn Q a (.seq b :: st) F h) : RestC P fn Q (.seq a b) st F h := by
  obtain ⟨e, F1, h1, r, s⟩ := H
  cases e with
  | normal =>
    obtain ⟨e2, F2, h2, r2, s2⟩ := s
    exact ⟨e2, F2, h2, Runs.seq r r2, s2⟩
  | exit j => exact ⟨_, F1, h1, Runs.seq_out (fun e => by cases e) r, s⟩
  | ret => exact ⟨_, F1, h1, Runs.seq_out (fun e => by cases e) r, s⟩
theorem restC_loop {b : Code} {st : List Item} {F : Fr} {h : AW} (H : RestC P fn Q b (.loop b :: st) F h) : RestC P fn Q (.loop b) st F h := by
  obtain ⟨e, F1, h1, r, s⟩ := H
  cases e with
  | normal =>
    obtain ⟨e2, F2, h2, r2, s2⟩ := s
    exact ⟨e2, F2, h2, Runs.loop_on r r2, s2⟩
  | exit j => exact ⟨_, F1, h1, Runs.loop_out (fun e => by cases e) r, s⟩
  | ret => exact ⟨_, F1, h1, Runs.loop_out (fun e => by cases e) r, s⟩
theorem restC_block {id : Nat} {b : Code} {st : List Item} {F : Fr} {h : AW} (H : RestC P fn Q b (.block id :: st) F h) : RestC P fn Q (.block id b) st F h := by
  obtain ⟨e, F1, h1, r, s⟩ := H
  exact ⟨_, F1, h1, Runs.block r, s⟩

theorem kPop_ok {go : Code → List Item → Fr → AW → Prop} (hgo : ∀ c st F h, go c st F h → ∀ F', Sub F F' → RestC P fn Q c st F' h) {F F' : Fr} {h : AW} (S : Sub F F') (st : List Item) : kPop P fn Q go st F h → RestS P fn Q st .normal F' h := by
  induction st with
  | nil => exact fun H => ⟨fun j e => (by cases e), kRet_ok S H⟩
  | cons i st ih =>
    intro H
    cases i with
    | seq c => exact hgo _ _ _ _ H _ S
    | block j => exact ih H
    | loop b => exact restC_loop (hgo _ _ _ _ H _ S)
theorem kExit_ok {go : Code → List Item → Fr → AW → Prop} (hgo : ∀ c st F h, go c st F h → ∀ F', Sub F F' → RestC P fn Q c st F' h) {id : Nat} {F F' : Fr} {h : AW} (S : Sub F F') (st : List Item) : kExit P fn Q go id st F h → RestS P fn Q st (.exit id) F' h := by
  induction st with
  | nil => exact fun H => H.elim
  | cons i st ih =>
    intro H
    cases i with
    | seq c => exact ih H
    | block j =>
      simp only [kExit] at H
      simp only [RestS, outOf]
      split at H
      · rename_i e; rw [e]; exact kPop_ok hgo S st H
      · rename_i e; rw [e]; exact ih H
    | loop b => exact ih H
theorem getAll_spec {F : Fr} : ∀ {L : List Nat} {vs : List Value}, getAll F L = some vs → ∀ (j t : Nat), L[j]? = some t → F.t.get? t = vs[j]? ∧ (F.t.get? t).isSome = true
  | [], vs, _, j, t, ht => by simp at ht
  | t' :: L, vs, hg, j, t, ht => by
    simp only [getAll] at hg
    split at hg
    · rename_i v r h1 h2
      cases hg
      cases j with
      | zero => simp at ht; subst ht; simp [h1]
      | succ j => simp at ht ⊢; exact getAll_spec h2 j t ht
    · cases hg
theorem kRun_ok : ∀ (n : Nat) (c : Code) (st : List Item) (F : Fr) (h : AW), kRun P fn ann Q n c st F h → ∀ F', Sub F F' → RestC P fn Q c st F' h
  | 0, _, _, _, _, H, _, _ => H.elim
  | n + 1, c, st, F, h, H, F', S => by
    simp only [kRun] at H
    split at H
    · exact ⟨_, F', h, Runs.skip, kPop_ok (kRun_ok n) S _ H⟩
    · exact ⟨_, F', h, Runs.label, kPop_ok (kRun_ok n) S _ H⟩
    · split at H
      · rename_i L _
        split at H
        · rename_i vs hv hn
          refine H F' (by rw [← S.n]; exact Nat.eq_of_beq_eq_true hn) fun j t ht => ?_
          obtain ⟨a, b⟩ := getAll_spec hv j t ht
          rw [S.get b, a]
        · exact H.elim
      · obtain ⟨F1, F1', h1, r, S1, k⟩ := kRegion_ok H S
        exact ⟨_, F1', h1, r, kPop_ok (kRun_ok n) S1 _ k⟩
    · exact restC_seq (kRun_ok n _ _ _ _ H _ S)
    · unfold kCond at H
      split at H
      · split at H
        · rename_i t _ v hv
          obtain ⟨b, rfl, H⟩ := vBool_ok H
          have hv' := S.t _ _ hv
          rcases bC_ok H with ⟨rfl, H⟩ | ⟨rfl, H⟩
          · obtain ⟨e, F1, h1, r, s⟩ := kRun_ok n _ _ _ _ H _ (setB_sub S hv')
            exact ⟨e, F1, h1, Runs.cond_t (by simp only [Fr.ev, hv']) r, s⟩
          · obtain ⟨e, F1, h1, r, s⟩ := kRun_ok n _ _ _ _ H _ (setB_sub S hv')
            exact ⟨e, F1, h1, Runs.cond_f (by simp only [Fr.ev, hv']) r, s⟩
        · exact H.elim
      · obtain ⟨b, rfl, H⟩ := vBool_ok H
        rcases bC_ok H with ⟨rfl, H⟩ | ⟨rfl, H⟩
        · obtain ⟨e, F1, h1, r, s⟩ := kRun_ok n _ _ _ _ H _ S
          exact ⟨e, F1, h1, Runs.cond_t rfl r, s⟩
        · obtain ⟨e, F1, h1, r, s⟩ := kRun_ok n _ _ _ _ H _ S
          exact ⟨e, F1, h1, Runs.cond_f rfl r, s⟩
      · exact H.elim
    · exact restC_block (kRun_ok n _ _ _ _ H _ S)
    · exact restC_loop (kRun_ok n _ _ _ _ H _ S)
    · obtain ⟨e, F1, h1, r, s⟩ := kRun_ok n _ _ _ _ H _ S
      exact ⟨e, F1, h1, Runs.scope r, s⟩
    · exact ⟨_, F', h, Runs.exit, kExit_ok (kRun_ok n) S _ H⟩
    · exact ⟨_, F', h, Runs.ret, restS_ret (kRet_ok S H) st⟩
    · exact H.elim

theorem frOf_get {n : Nat} : ∀ {L : List Nat} {vs : List Value} {T0 : T Value} {t : Nat} {v : Value}, L.length = vs.length → (frOf n L vs T0).t.get? t = some v → T0.get? t = some v ∨ ∃ j : Nat, L[j]? = some t ∧ vs[j]? = some v
  | [], [], T0, t, v, _, h => .inl h
  | t' :: L, v' :: vs, T0, t, v, hl, h => by
    simp only [frOf] at h
    rcases frOf_get (by simpa using hl) h with e | ⟨j, a, b⟩
    · rw [T.get?_set] at e
      split at e
      · rename_i e'; cases e; exact .inr ⟨0, by simp [e'], by simp⟩
      · exact .inl e
    · exact .inr ⟨j + 1, by simpa using a, by simpa using b⟩
  | [], _ :: _, _, _, _, hl, _ => by simp at hl
  | _ :: _, [], _, _, _, hl, _ => by simp at hl
theorem frOf_n {n : Nat} : ∀ {L : List Nat} {vs : List Value} {T0 : T Value}, (frOf n L vs T0).n = n
  | [], _, _ => by simp [frOf]
  | _ :: _, [], _ => by simp [frOf]
  | t' :: L, v' :: vs, T0 => by simp only [frOf]; exact frOf_n

/-- From a place on: its own region, and what follows. -/
theorem unit_ok {f id n : Nat} {L : List Nat} {vs : List Value} {h : AW} (H : kUnit P f id n ann L vs h Q) : unitAt P f id L vs h Q := by
  unfold kUnit at H
  unfold unitAt
  split at H
  · rename_i fn c hb
    try rw [hb]
    try simp only
    split at H
    · rename_i i ops d st hl
      try rw [hl]
      try simp only
      split at H
      · rename_i hlen
        intro F hn hF
        have S : Sub (frOf fn.ntmps L vs .nil) F := by
          refine ⟨by rw [frOf_n, hn], fun t v hv => ?_⟩
          rcases frOf_get (Nat.eq_of_beq_eq_true hlen) hv with e | ⟨j, a, b⟩
          · simp [T.get?] at e
          · rw [hF j t a, b]
        obtain ⟨F1, F1', h1, r, S1, k⟩ := kRegion_ok H S
        exact ⟨_, F1', h1, r, kPop_ok (kRun_ok n) S1 _ k⟩
      · exact H.elim
    · exact H.elim
  · exact H.elim

/-- A call of a function. -/
theorem fn_ok {f n : Nat} {args : List Value} {h : AW} (H : kFn P f n ann args h Q) : EvQ P f args h Q := by
  unfold kFn at H
  split at H
  · rename_i fn c hb
    split at H
    · rename_i hle
      obtain ⟨e, F1, h1, r, s⟩ := kRun_ok n _ _ _ _ H _ (Sub.refl _)
      obtain ⟨hx, v, hv, q⟩ := s
      refine ⟨v, h1, Evals.of_runs hb (e := e) (F' := F1) ?_ hx ?_, q⟩
      · rw [show Nat.max args.length fn.ntmps = fn.ntmps from Nat.max_eq_right (Nat.le_of_ble_eq_true hle)]; exact r
      · unfold finV at hv; exact hv
    · exact H.elim
  · exact H.elim
end Go.Abs
end

section
/- Reasoning about the heap: what is owned, what stays. -/
namespace Go.Abs

/-! Words on what is known. -/
section
variable {α : Type}
@[simp] theorem oB_some {a : α} {f : α → Prop} : oB (some a) f = f a := rfl
@[simp] theorem oB_none {f : α → Prop} : oB none f = False := rfl
@[simp] theorem oP_some {v : Value} {h : AW} {f : Value → AW → Prop} : oP (some (v, h)) f = f v h := rfl
@[simp] theorem bC_true {p q : Prop} : bC true p q = p := rfl
@[simp] theorem bC_false {p q : Prop} : bC false p q = q := rfl
@[simp] theorem vInt_int {k : IntKind} {n : Int} {f : Int → Prop} : vInt k (.int k n) f = f n := by
  unfold vInt
  simp
@[simp] theorem vBool_bool {b : Bool} {f : Bool → Prop} : vBool (.bool b) f = f b := rfl
@[simp] theorem vStr_string {s : ByteArray} {f : ByteArray → Prop} : vStr (.string s) f = f s := rfl
@[simp] theorem vPtr_pointer {p : Option Addr} {f : Option Addr → Prop} : vPtr (.pointer p) f = f p := rfl
@[simp] theorem vSl_slice {a : Option Addr} {l c : Nat} {f : Option Addr → Nat → Nat → Prop} : vSl (.slice a l c) f = f a l c := rfl
@[simp] theorem vMap_map {r : Option Nat} {f : Option Nat → Prop} : vMap (.map r) f = f r := rfl
@[simp] theorem vFun_func {i : FuncId} {a b : Array Value} {f : FuncId → List Value → List Value → Prop} : vFun (.func (.func i) a b) f = f i a.toList b.toList := rfl
@[simp] theorem vAgg_agg {a : Array Value} {f : List Value → Prop} : vAgg (.agg a) f = f a.toList := rfl
@[simp] theorem vIfc_nil {p : Prop} {f : TypeId → Value → Prop} : vIfc .nilIface p f = p := rfl
@[simp] theorem vIfc_iface {p : Prop} {f : TypeId → Value → Prop} {t : TypeId} {x : Value} : vIfc (.iface t x) p f = f t x := rfl
@[simp] theorem vTup_tuple {a : Array Value} {f : List Value → Prop} : vTup (.tuple a) f = f a.toList := rfl
@[simp] theorem lC_cons {v : Value} {l : List Value} {f : Value → List Value → Prop} : lC (v :: l) f = f v l := rfl
@[simp] theorem lN_nil {p : Prop} : lN [] p = p := rfl
@[simp] theorem aP_some {i off : Nat} {f : Nat → Nat → Prop} : aP (some ⟨i, off, none⟩) f = f i off := rfl
@[simp] theorem shO_none {n : Nat} : shO none n = some none := rfl
@[simp] theorem shO_some {i off n : Nat} : shO (some ⟨i, off, none⟩) n = some (some ⟨i, off + n, none⟩) := rfl
end
theorem natIdx_eq {j n : Nat} (h : j < n) : natIdx (j : Int) n = some j := by
  unfold natIdx
  show (match Nat.ble (j + 1) n with | true => some j | false => none) = some j
  rw [Nat.ble_eq_true_of_le h]
theorem natBnd_eq {j n : Nat} (h : j ≤ n) : natBnd (j : Int) n = some j := by
  unfold natBnd
  show (match Nat.ble j n with | true => some j | false => none) = some j
  rw [Nat.ble_eq_true_of_le h]
theorem bEq_iff {x y : ByteArray} : bEq x y = true ↔ x = y := by
  unfold bEq
  rw [beq_iff_eq]
  refine ⟨fun h => ?_, fun h => by rw [h]⟩
  apply ByteArray.ext
  exact Array.ext' h
@[simp] theorem bEq_self {x : ByteArray} : bEq x x = true := bEq_iff.2 rfl
theorem bEq_false {x y : ByteArray} : bEq x y = false ↔ x ≠ y := by
  rw [← Bool.not_eq_true, bEq_iff]
theorem bC_iff {b : Bool} {p q : Prop} (h1 : b = true → p) (h2 : b = false → q) : bC b p q := by
  cases b
  · exact h2 rfl
  · exact h1 rfl
theorem wrap_small {n : Int} (h1 : -9223372036854775808 ≤ n) (h2 : n < 9223372036854775808) : IntKind.wrap .i64 n = n := by
  unfold IntKind.wrap
  simp [IntKind.signed, IntKind.bits]
  omega

/-! What stays. -/
/-- Each number's mark: to whom it belongs. -/
abbrev Paint := Nat → Nat

/-- Between two heaps only what bears marks of S was turned. -/
structure Chg (S : Nat → Prop) (h : AW) (μ : Paint) (h' : AW) (μ' : Paint) : Prop where
  le : h.next ≤ h'.next
  mark : ∀ i, i < h.next → μ' i = μ i
  obj : ∀ i, i < h.next → ¬ S (μ i) → h'.objs.get? i = h.objs.get? i
  fam : ∀ i, i < h.next → ¬ S (μ i) → h'.fams.get? i = h.fams.get? i
  ty : ∀ i, i < h.next → h'.tys.get? i = h.tys.get? i

variable {S S' : Nat → Prop} {h h' h'' : AW} {μ μ' μ'' : Paint}
theorem Chg.refl : Chg S h μ h μ := ⟨Nat.le_refl _, fun _ _ => rfl, fun _ _ _ => rfl, fun _ _ _ => rfl, fun _ _ => rfl⟩
theorem Chg.trans (a : Chg S h μ h' μ') (b : Chg S h' μ' h'' μ'') : Chg S h μ h'' μ'' := by
  refine ⟨Nat.le_trans a.le b.le, fun i hi => ?_, fun i hi hs => ?_, fun i hi hs => ?_, fun i hi => by rw [b.ty i (Nat.lt_of_lt_of_le hi a.le), a.ty i hi]⟩
  · rw [b.mark i (Nat.lt_of_lt_of_le hi a.le), a.mark i hi]
  · rw [b.obj i (Nat.lt_of_lt_of_le hi a.le) (by rw [a.mark i hi]; exact hs), a.obj i hi hs]
  · rw [b.fam i (Nat.lt_of_lt_of_le hi a.le) (by rw [a.mark i hi]; exact hs), a.fam i hi hs]
theorem Chg.mono (a : Chg S h μ h' μ') (hs : ∀ n, S n → S' n) : Chg S' h μ h' μ' :=
  ⟨a.le, a.mark, fun i hi hn => a.obj i hi fun x => hn (hs _ x), fun i hi hn => a.fam i hi fun x => hn (hs _ x), a.ty⟩

/-- New numbers bear the mark c. -/
def mkNew (μ : Paint) (n c : Nat) : Paint := fun i => if i < n then μ i else c

/-! Blocks. -/
/-- The block i has just these cells. -/
def VarAt (h : AW) (i : Nat) (l : List Value) : Prop := ∃ t, h.objs.get? i = some (.var t l.length false) ∧ ∀ j, j < l.length → t.get? j = l[j]?

theorem VarAt.rd {i : Nat} {l : List Value} (V : VarAt h i l) (j : Nat) : h.rd i j = l[j]? := by
  obtain ⟨t, ho, hc⟩ := V
  unfold AW.rd
  rw [ho]
  simp only
  by_cases hj : j < l.length
  · rw [Nat.ble_eq_true_of_le hj]; exact hc j hj
  · rw [show Nat.ble (j + 1) l.length = false from by
      rw [← Bool.not_eq_true, Nat.ble_eq]; omega]
    rw [List.getElem?_eq_none (by omega)]
theorem VarAt.wr {i j : Nat} {l : List Value} {v : Value} (V : VarAt h i l) (hj : j < l.length) (h1 : oneCell v = true) : ∃ t', h.wr i j v = some { h with objs := h.objs.set i (.var t' l.length false) } ∧ VarAt { h with objs := h.objs.set i (.var t' l.length false) } i (l.set j v) := by
  obtain ⟨t, ho, hc⟩ := V
  refine ⟨t.set j v, ?_, t.set j v, ?_, fun k hk => ?_⟩
  · unfold AW.wr
    rw [h1, ho]
    simp only
    rw [Nat.ble_eq_true_of_le hj]
  · simp only [List.length_set]; exact T.get?_set_same _ _ _
  · rw [T.get?_set, List.getElem?_set]
    rw [List.length_set] at hk
    by_cases e : k = j
    · subst e; simp [hk]
    · rw [if_neg e, if_neg (fun x => e x.symm)]; exact hc k hk
theorem VarAt.lt {i : Nat} {l : List Value} (V : VarAt h i l) (e : h'.objs.get? i = h.objs.get? i) : VarAt h' i l := by
  obtain ⟨t, ho, hc⟩ := V
  exact ⟨t, by rw [e]; exact ho, hc⟩
theorem VarAt.keep {i : Nat} {l : List Value} (V : VarAt h i l) (hi : i < h.next) (hs : ¬ S (μ i)) (C : Chg S h μ h' μ') : VarAt h' i l := V.lt (C.obj i hi hs)
theorem addVar_at {l : List Value} : VarAt (h.addVar l) h.next l := by
  refine ⟨T.ofList l, ?_, fun j _ => T.get?_ofList _ _⟩
  simp only [AW.addVar]
  exact T.get?_set_same _ _ _
theorem addVar_chg {l : List Value} {c : Nat} : Chg S h μ (h.addVar l) (mkNew μ h.next c) := by
  refine ⟨Nat.le_succ _, fun i hi => by simp [mkNew, hi], fun i hi _ => ?_, fun i hi _ => rfl, fun _ _ => rfl⟩
  simp only [AW.addVar]
  exact T.get?_set_ne _ _ (by omega)
theorem mkNew_new {n c i : Nat} (hi : n ≤ i) : mkNew μ n c i = c := by simp [mkNew]; omega
theorem mkNew_old {n c i : Nat} (hi : i < n) : mkNew μ n c i = μ i := by simp [mkNew, hi]
/-- A block written. -/
theorem VarAt.chg {i j : Nat} {l : List Value} {v : Value} (V : VarAt h i l) (hj : j < l.length) (h1 : oneCell v = true) (hs : S (μ i)) : ∃ h', h.wr i j v = some h' ∧ VarAt h' i (l.set j v) ∧ Chg S h μ h' μ ∧ h'.next = h.next := by
  obtain ⟨t', e, V'⟩ := V.wr hj h1
  refine ⟨_, e, V', ⟨Nat.le_refl _, fun _ _ => rfl, fun k hk hn => ?_, fun _ _ _ => rfl, fun _ _ => rfl⟩, rfl⟩
  exact T.get?_set_ne _ _ (fun e => hn (by rw [e]; exact hs))

/-! Slices that are read. -/
/-- The cells from an address on. -/
def Sl (h : AW) (a : Option Addr) (vs : List Value) : Prop :=
  (a = none ∧ vs = []) ∨ ∃ i off, a = some ⟨i, off, none⟩ ∧ ∀ j, j < vs.length → h.rd i (off + j) = vs[j]?

theorem Sl.get {a : Option Addr} {vs : List Value} (H : Sl h a vs) {j : Nat} {v : Value} (hv : vs[j]? = some v) {f : Nat → Nat → Prop} (hf : ∀ i off, a = some ⟨i, off, none⟩ → h.rd i (off + j) = some v → f i off) : aP a f := by
  rcases H with ⟨_, rfl⟩ | ⟨i, off, rfl, hc⟩
  · simp at hv
  · simp only [aP_some]
    have : j < vs.length := by
      rcases Nat.lt_or_ge j vs.length with x | x
      · exact x
      · rw [List.getElem?_eq_none x] at hv; cases hv
    exact hf i off rfl (by rw [hc j this]; exact hv)
/-- An element of one cell. -/
theorem Sl.at1 {a : Option Addr} {vs : List Value} (H : Sl h a vs) {z : Int} {j n : Nat} {v : Value} (hz : z = j) (hn : n = vs.length) (hv : vs[j]? = some v) {f : Value → Prop} (hf : f v) : aP a fun i off => oB (natIdx z n) fun j => oB (h.rd i (off + j * 1)) f := by
  subst hz
  have hj : j < vs.length := by
    rcases Nat.lt_or_ge j vs.length with x | x
    · exact x
    · rw [List.getElem?_eq_none x] at hv; cases hv
  refine H.get hv fun i off _ hr => ?_
  rw [natIdx_eq (by omega)]
  simp only [oB_some, Nat.mul_one]
  rw [hr]
  exact hf
theorem Sl.rdN {vs : List Value} {i off : Nat} (H : ∀ j, j < vs.length → h.rd i (off + j) = vs[j]?) : h.rdN i off vs.length = some vs := by
  induction vs generalizing off with
  | nil => rfl
  | cons v vs ih =>
    have h0 := H 0 (by simp)
    simp only [Nat.add_zero, List.getElem?_cons_zero] at h0
    simp only [List.length_cons, AW.rdN, h0]
    rw [ih (off := off + 1) fun j hj => by have := H (j + 1) (by simpa using hj); rwa [List.getElem?_cons_succ, show off + (j + 1) = off + 1 + j from by omega] at this]
end Go.Abs
end

section
/- Slices that are owned: written, cut, appended to. -/
namespace Go.Abs
variable {S : Nat → Prop} {h h' : AW} {μ μ' : Paint} {c : Nat} {P : Program}

def Kind (h : AW) (μ : Paint) (c i off cap sz : Nat) : Prop :=
  (∃ t n ro, h.objs.get? i = some (.var t n ro) ∧ off + cap * sz ≤ n ∧ (ro = true → cap = 0)) ∨
  (∃ f g lo hi t ext frz, h.objs.get? i = some (.row f g lo hi sz t) ∧ h.fams.get? f = some ⟨g, ext, frz⟩ ∧ f < h.next ∧ μ f = c ∧ lo ≤ off ∧ off + cap * sz = hi ∧ frz ≤ lo)

/-- The cells vs stand at a, and there is room for cap elements of sz cells; all of it bears the mark c. -/
structure OM (h : AW) (μ : Paint) (c : Nat) (a : Option Addr) (cap sz : Nat) (vs : List Value) : Prop where
  le : vs.length ≤ cap * sz
  one : allOne vs = true
  mem : (a = none ∧ cap = 0) ∨ ∃ i off, a = some ⟨i, off, none⟩ ∧ i < h.next ∧ μ i = c ∧ (∀ j, j < vs.length → h.rd i (off + j) = vs[j]?) ∧ Kind h μ c i off cap sz

variable {a : Option Addr} {cap sz : Nat} {vs : List Value}
theorem OM.nil : OM h μ c none 0 sz [] := ⟨by simp, rfl, .inl ⟨rfl, rfl⟩⟩
theorem OM.sl (O : OM h μ c a cap sz vs) : Sl h a vs := by
  rcases O.mem with ⟨e, rfl⟩ | ⟨i, off, e, _, _, r, _⟩
  · refine .inl ⟨e, List.eq_nil_of_length_eq_zero ?_⟩
    have := O.le; omega
  · exact .inr ⟨i, off, e, r⟩
theorem rd_same {i off : Nat} (ho : h'.objs.get? i = h.objs.get? i) (hf : ∀ f g lo hi z t, h.objs.get? i = some (.row f g lo hi z t) → h'.fams.get? f = h.fams.get? f) : h'.rd i off = h.rd i off := by
  unfold AW.rd
  rw [ho]
  split
  · rfl
  · rename_i f g lo hi z t e
    rw [hf _ _ _ _ _ _ e]
  · rfl
theorem OM.keep (O : OM h μ c a cap sz vs) (hs : ¬ S c) (C : Chg S h μ h' μ') : OM h' μ' c a cap sz vs := by
  refine ⟨O.le, O.one, ?_⟩
  rcases O.mem with x | ⟨i, off, e, hi, hm, r, k⟩
  · exact .inl x
  · have ho := C.obj i hi (by rw [hm]; exact hs)
    refine .inr ⟨i, off, e, Nat.lt_of_lt_of_le hi C.le, by rw [C.mark i hi, hm], fun j hj => ?_, ?_⟩
    · rw [← r j hj]
      refine rd_same ho fun f g lo hi' z t hrow => ?_
      rcases k with ⟨t', n, ro, h1, _⟩ | ⟨f', g', lo', hi'', t', ext, frz, h1, h2, h3, h4, _⟩
      · rw [h1] at hrow; cases hrow
      · rw [h1] at hrow; cases hrow
        exact C.fam f h3 (by rw [h4]; exact hs)
    · rcases k with ⟨t', n, ro, h1, h2⟩ | ⟨f', g', lo', hi'', t', ext, frz, h1, h2, h3, h4, h5⟩
      · exact .inl ⟨t', n, ro, by rw [ho]; exact h1, h2⟩
      · exact .inr ⟨f', g', lo', hi'', t', ext, frz, by rw [ho]; exact h1, by rw [C.fam f' h3 (by rw [h4]; exact hs)]; exact h2, Nat.lt_of_lt_of_le h3 C.le, by rw [C.mark f' h3, h4], h5⟩
/-- The cells vs stand at a, and it all bears the mark c. -/
def SM (h : AW) (μ : Paint) (c : Nat) (a : Option Addr) (vs : List Value) : Prop :=
  (a = none ∧ vs = []) ∨ ∃ i off, a = some ⟨i, off, none⟩ ∧ i < h.next ∧ μ i = c ∧ (∀ f g lo hi z t, h.objs.get? i = some (.row f g lo hi z t) → f < h.next ∧ μ f = c) ∧ ∀ j, j < vs.length → h.rd i (off + j) = vs[j]?
theorem SM.sl (X : SM h μ c a vs) : Sl h a vs := by
  rcases X with x | ⟨i, off, e, _, _, _, r⟩
  · exact .inl x
  · exact .inr ⟨i, off, e, r⟩
theorem OM.sm (O : OM h μ c a cap sz vs) : SM h μ c a vs := by
  rcases O.mem with ⟨e, rfl⟩ | ⟨i, off, e, h1, h2, r, k⟩
  · refine .inl ⟨e, List.eq_nil_of_length_eq_zero ?_⟩
    have := O.le; omega
  · refine .inr ⟨i, off, e, h1, h2, fun f g lo hi z t hr => ?_, r⟩
    rcases k with ⟨t', n, ro, h3, _⟩ | ⟨f', g', lo', hi', t', ext, frz, h3, _, h5, h6, _⟩
    · rw [h3] at hr; cases hr
    · rw [h3] at hr; cases hr; exact ⟨h5, h6⟩
theorem SM.keep (X : SM h μ c a vs) (hs : ¬ S c) (C : Chg S h μ h' μ') : SM h' μ' c a vs := by
  rcases X with x | ⟨i, off, e, h1, h2, h3, r⟩
  · exact .inl x
  · have ho := C.obj i h1 (by rw [h2]; exact hs)
    refine .inr ⟨i, off, e, Nat.lt_of_lt_of_le h1 C.le, by rw [C.mark i h1, h2], fun f g lo hi z t hr => ?_, fun j hj => ?_⟩
    · rw [ho] at hr
      obtain ⟨h4, h5⟩ := h3 f g lo hi z t hr
      exact ⟨Nat.lt_of_lt_of_le h4 C.le, by rw [C.mark f h4, h5]⟩
    · rw [← r j hj]
      refine rd_same ho fun f g lo hi z t hr => ?_
      obtain ⟨h4, h5⟩ := h3 f g lo hi z t hr
      exact C.fam f h4 (by rw [h5]; exact hs)
theorem SM.nil : SM h μ c none [] := .inl ⟨rfl, rfl⟩
theorem VarAt.sm {i : Nat} {l : List Value} (V : VarAt h i l) (hi : i < h.next) (hm : μ i = c) : SM h μ c (some ⟨i, 0, none⟩) l := by
  refine .inr ⟨i, 0, rfl, hi, hm, fun f g lo hi z t hr => ?_, fun j _ => by rw [Nat.zero_add, V.rd]⟩
  obtain ⟨t', ho, _⟩ := V
  rw [ho] at hr; cases hr
theorem allOne_append : ∀ {l m : List Value}, allOne (l ++ m) = (allOne l && allOne m)
  | [], m => rfl
  | v :: l, m => by
    simp only [List.cons_append, allOne]
    cases oneCell v
    · rfl
    · exact allOne_append
theorem allOne_get : ∀ {l : List Value} {j : Nat} {v : Value}, allOne l = true → l[j]? = some v → oneCell v = true
  | [], j, v, _, e => by simp at e
  | w :: l, j, v, ha, e => by
    simp only [allOne] at ha
    split at ha
    · rename_i h1
      cases j with
      | zero => simp at e; subst e; exact h1
      | succ j => simp at e; exact allOne_get ha e
    · cases ha
theorem allOne_of : ∀ {l : List Value}, (∀ v, v ∈ l → oneCell v = true) → allOne l = true
  | [], _ => rfl
  | w :: l, H => by
    simp only [allOne]
    rw [H w (by simp)]
    exact allOne_of fun v hv => H v (by simp [hv])
theorem allOne_mem {l : List Value} (ha : allOne l = true) {v : Value} (hv : v ∈ l) : oneCell v = true := by
  obtain ⟨j, hj, e⟩ := List.getElem_of_mem hv
  exact allOne_get ha (j := j) (by rw [List.getElem?_eq_getElem hj, e])
/-- Written within. -/
theorem OM.wr {i off : Nat} (O : OM h μ c (some ⟨i, off, none⟩) cap sz vs) {j : Nat} {v : Value} (hj : j < cap * sz) (hv : j ≤ vs.length) (h1 : oneCell v = true) :
    ∃ h', h.wr i (off + j) v = some h' ∧ OM h' μ c (some ⟨i, off, none⟩) cap sz (if j < vs.length then vs.set j v else vs ++ [v]) ∧ Chg (· = c) h μ h' μ ∧ h'.next = h.next := by
  rcases O.mem with ⟨e, _⟩ | ⟨i', off', e, hi, hm, r, k⟩
  · cases e
  cases e
  have hone : allOne (if j < vs.length then vs.set j v else vs ++ [v]) = true := by
    split
    · refine allOne_of fun w hw => ?_
      rcases List.mem_or_eq_of_mem_set hw with x | rfl
      · exact allOne_mem O.one x
      · exact h1
    · rw [allOne_append, O.one]; simp [allOne, h1]
  have hlen : (if j < vs.length then vs.set j v else vs ++ [v]).length ≤ cap * sz := by
    split
    · rw [List.length_set]; exact O.le
    · rw [List.length_append]; simp; omega
  have hget : ∀ k, k < (if j < vs.length then vs.set j v else vs ++ [v]).length → (if j < vs.length then vs.set j v else vs ++ [v])[k]? = if k = j then some v else vs[k]? := by
    intro k hk
    split
    · rename_i hlt
      rw [List.getElem?_set]
      by_cases e : k = j
      · subst e; simp [hlt]
      · rw [if_neg (fun x => e x.symm), if_neg e]
    · rename_i hge
      have : j = vs.length := by omega
      subst this
      by_cases e : k = vs.length
      · subst e; simp
      · rw [if_neg e, List.getElem?_append_left]
        rw [if_neg hge] at hk
        simp at hk; omega
  have hlen2 : ∀ k, k < (if j < vs.length then vs.set j v else vs ++ [v]).length → k ≠ j → k < vs.length := by
    intro k hk hne
    split at hk
    · rwa [List.length_set] at hk
    · simp at hk; omega
  rcases k with ⟨t, n, ro, ho, hb, hro⟩ | ⟨f, g, lo, hi', t, ext, frz, ho, hf, hfn, hfm, h5, h6, h7⟩
  · have : ro = false := by
      cases ro
      · rfl
      · have := hro rfl; subst this; simp at hj
    subst this
    refine ⟨{ h with objs := h.objs.set i (.var (t.set (off + j) v) n false) }, ?_, ⟨hlen, hone, .inr ⟨i, off, rfl, hi, hm, fun k hk => ?_, .inl ⟨t.set (off + j) v, n, false, T.get?_set_same _ _ _, hb, fun e => (by cases e)⟩⟩⟩, ⟨Nat.le_refl _, fun _ _ => rfl, fun k hk hn => T.get?_set_ne _ _ (fun e => hn (by rw [e, hm])), fun _ _ _ => rfl, fun _ _ => rfl⟩, rfl⟩
    · unfold AW.wr
      rw [h1, ho]; simp only
      rw [Nat.ble_eq_true_of_le (show off + j + 1 ≤ n by omega)]
    · rw [hget k hk]
      unfold AW.rd
      simp only [T.get?_set_same]
      have hkc : k < cap * sz := Nat.lt_of_lt_of_le hk hlen
      rw [Nat.ble_eq_true_of_le (show off + k + 1 ≤ n by omega)]
      simp only
      rw [T.get?_set]
      by_cases e : k = j
      · subst e; simp
      · rw [if_neg (by omega), if_neg e]
        have := r k (hlen2 k hk e)
        unfold AW.rd at this
        rw [ho] at this; simp only at this
        rw [Nat.ble_eq_true_of_le (show off + k + 1 ≤ n by omega)] at this
        exact this
  · refine ⟨{ h with objs := h.objs.set i (.row f (g + 1) lo hi' sz (t.set (off + j) v)), fams := h.fams.set f { gen := g + 1, ext := ext, frz := frz } }, ?_, ⟨hlen, hone, .inr ⟨i, off, rfl, hi, hm, fun k hk => ?_, .inr ⟨f, g + 1, lo, hi', t.set (off + j) v, ext, frz, T.get?_set_same _ _ _, T.get?_set_same _ _ _, hfn, hfm, h5, h6, h7⟩⟩⟩, ⟨Nat.le_refl _, fun _ _ => rfl, fun k hk hn => T.get?_set_ne _ _ (fun e => hn (by rw [e, hm])), fun k hk hn => T.get?_set_ne _ _ (fun e => hn (by rw [e, hfm])), fun _ _ => rfl⟩, rfl⟩
    · unfold AW.wr
      rw [h1, ho]; simp only
      rw [hf]; simp only
      rw [Nat.beq_refl, Nat.ble_eq_true_of_le (show lo ≤ off + j by omega), Nat.ble_eq_true_of_le (show off + j + 1 ≤ hi' by omega), Nat.ble_eq_true_of_le (show frz ≤ off + j by omega)]
      rfl
    · rw [hget k hk]
      unfold AW.rd
      simp only [T.get?_set_same]
      have hkc : k < cap * sz := Nat.lt_of_lt_of_le hk hlen
      rw [Nat.beq_refl, Nat.ble_eq_true_of_le (show lo ≤ off + k by omega), Nat.ble_eq_true_of_le (show off + k + 1 ≤ hi' by omega)]
      simp only [Bool.and_self]
      rw [T.get?_set]
      by_cases e : k = j
      · subst e; simp
      · rw [if_neg (by omega), if_neg e]
        have := r k (hlen2 k hk e)
        unfold AW.rd at this
        rw [ho] at this; simp only at this
        rw [hf] at this; simp only at this
        rw [Nat.beq_refl, Nat.ble_eq_true_of_le (show lo ≤ off + k by omega), Nat.ble_eq_true_of_le (show off + k + 1 ≤ hi' by omega)] at this
        exact this
/-- Written behind, one after the other. -/
theorem OM.wrL {i off : Nat} : ∀ (new : List Value) {h : AW} {vs : List Value}, OM h μ c (some ⟨i, off, none⟩) cap sz vs → vs.length + new.length ≤ cap * sz → allOne new = true →
    ∃ h', h.wrL i (off + vs.length) new = some h' ∧ OM h' μ c (some ⟨i, off, none⟩) cap sz (vs ++ new) ∧ Chg (· = c) h μ h' μ ∧ h'.next = h.next
  | [], h, vs, O, _, _ => ⟨h, rfl, by simpa using O, Chg.refl, rfl⟩
  | v :: new, h, vs, O, hle, ha => by
    simp only [allOne] at ha
    split at ha
    · rename_i h1
      simp only [List.length_cons] at hle
      obtain ⟨h2, e, O2, C, n2⟩ := O.wr (j := vs.length) (by omega) (Nat.le_refl _) h1
      rw [if_neg (Nat.lt_irrefl _)] at O2
      obtain ⟨h3, e3, O3, C3, n3⟩ := OM.wrL new O2 (by simp; omega) ha
      refine ⟨h3, ?_, by simpa using O3, C.trans C3, by rw [n3, n2]⟩
      simp only [AW.wrL]
      rw [e]; simp only
      rw [List.length_append] at e3
      simpa [Nat.add_assoc] using e3
    · cases ha
/-- The first elements, with all the room. -/
theorem OM.take (O : OM h μ c a cap sz vs) (k : Nat) : OM h μ c a cap sz (vs.take k) := by
  refine ⟨Nat.le_trans (by simp; omega) O.le, allOne_of fun v hv => allOne_mem O.one (List.mem_of_mem_take hv), ?_⟩
  rcases O.mem with x | ⟨i, off, e, hi, hm, r, kk⟩
  · exact .inl x
  · refine .inr ⟨i, off, e, hi, hm, fun j hj => ?_, kk⟩
    rw [List.length_take] at hj
    rw [r j (by omega), List.getElem?_take_of_lt (by omega)]
/-- From an element on. -/
theorem OM.drop {i off : Nat} (O : OM h μ c (some ⟨i, off, none⟩) cap sz vs) {k : Nat} (hk : k ≤ cap) : OM h μ c (some ⟨i, off + k * sz, none⟩) (cap - k) sz (vs.drop (k * sz)) := by
  have hmul : (cap - k) * sz + k * sz = cap * sz := by rw [← Nat.add_mul, Nat.sub_add_cancel hk]
  refine ⟨by rw [List.length_drop]; have := O.le; omega, allOne_of fun v hv => allOne_mem O.one (List.mem_of_mem_drop hv), ?_⟩
  rcases O.mem with ⟨e, _⟩ | ⟨i', off', e, hi, hm, r, kk⟩
  · cases e
  cases e
  refine .inr ⟨i, off + k * sz, rfl, hi, hm, fun j hj => ?_, ?_⟩
  · rw [List.length_drop] at hj
    rw [show off + k * sz + j = off + (k * sz + j) from by omega, r _ (by omega), List.getElem?_drop]
  · rcases kk with ⟨t, n, ro, h1, h2, h3⟩ | ⟨f, g, lo, hi', t, ext, frz, h1, h2, h3, h4, h5, h6, h7⟩
    · exact .inl ⟨t, n, ro, h1, by omega, fun e => by have := h3 e; omega⟩
    · exact .inr ⟨f, g, lo, hi', t, ext, frz, h1, h2, h3, h4, by omega, by omega, h7⟩
/-- Telling a type turns nothing else. -/
theorem OM.tag (O : OM h μ c a cap sz vs) {i : Nat} {t : TypeId} : OM (h.tag i t) μ c a cap sz vs := ⟨O.le, O.one, O.mem⟩
theorem OM.tagAs (O : OM h μ c a cap sz vs) {i : Nat} {t : TypeId} {o : Option TypeId} : OM (h.tagAs i o t) μ c a cap sz vs := by
  unfold AW.tagAs
  split
  · split
    · exact O.tag
    · exact O
  · exact O
theorem Chg.tag (C : Chg S h μ h' μ') {i : Nat} (hi : h.next ≤ i) {t : TypeId} : Chg S h μ (h'.tag i t) μ' :=
  ⟨C.le, C.mark, C.obj, C.fam, fun j hj => (T.get?_set_ne _ _ (by omega)).trans (C.ty j hj)⟩
theorem Chg.tagAs (C : Chg S h μ h' μ') {i : Nat} (hi : h.next ≤ i) {t : TypeId} {o : Option TypeId} : Chg S h μ (h'.tagAs i o t) μ' := by
  unfold AW.tagAs
  split
  · split
    · exact C.tag hi
    · exact C
  · exact C
/-- A new row. -/
theorem newRow_ok {new : List Value} {n : Nat} (ha : allOne new = true) (hn : new.length = n * sz) : ∃ h', h.newRow sz new = some (h.next, h') ∧ OM h' (mkNew μ h.next c) c (some ⟨h.next, 0, none⟩) n sz new ∧ Chg S h μ h' (mkNew μ h.next c) := by
  refine ⟨{ h with next := h.next + 2, objs := h.objs.set h.next (.row (h.next + 1) 0 0 new.length sz (T.ofList new)), fams := h.fams.set (h.next + 1) ⟨0, new.length, 0⟩ }, ?_, ⟨by omega, ha, .inr ⟨h.next, 0, rfl, by simp only; omega, mkNew_new (Nat.le_refl _), fun j hj => ?_, .inr ⟨h.next + 1, 0, 0, new.length, T.ofList new, new.length, 0, T.get?_set_same _ _ _, T.get?_set_same _ _ _, by simp only; omega, mkNew_new (by omega), Nat.le_refl _, by omega, Nat.le_refl _⟩⟩⟩, ⟨by simp only; omega, fun i hi => mkNew_old hi, fun i hi _ => T.get?_set_ne _ _ (by omega), fun i hi _ => T.get?_set_ne _ _ (by omega), fun _ _ => rfl⟩⟩
  · unfold AW.newRow; rw [ha]
  · unfold AW.rd
    simp only [T.get?_set_same]
    rw [Nat.beq_refl, Nat.ble_eq_true_of_le (show 0 ≤ 0 + j by omega), Nat.ble_eq_true_of_le (show 0 + j + 1 ≤ new.length by omega)]
    simp only [Bool.and_self, Nat.zero_add]
    exact T.get?_ofList _ _
theorem OM.rdN {i off l : Nat} (O : OM h μ c (some ⟨i, off, none⟩) cap sz vs) (hl : vs.length = l) : h.rdN i off l = some vs := by
  subst hl
  rcases O.mem with ⟨e, _⟩ | ⟨i', off', e, hi, hm, r, kk⟩
  · cases e
  cases e
  exact Sl.rdN r
theorem appendV_ok {e : TypeId} {te : TI} (h2 : tiOf P e = some te) (hz : te.zero.isSome = true) (O : OM h μ c a cap te.size vs) {l n : Nat} (hl : vs.length = l * te.size) {new : List Value} (hn : new.length = n * te.size) (ha : allOne new = true)
    (r1 : (l + n) * te.bytes ≤ 70368744177664) (r2 : l + n ≤ 4611686018427387904) (hcap : l ≤ cap) :
    ∃ a' cap' h', appendV P h e (.slice a l cap) n new = some (.slice a' (l + n) cap', h') ∧ OM h' (mkNew μ h.next c) c a' cap' te.size (vs ++ new) ∧ l + n ≤ cap' ∧ Chg (· = c) h μ h' (mkNew μ h.next c) := by
  have hlen : (vs ++ new).length = (l + n) * te.size := by rw [List.length_append, hl, hn, Nat.add_mul]
  unfold appendV
  rw [h2]
  simp only
  rw [hn, Nat.beq_refl]
  simp only
  have keepμ : ∀ {h' : AW}, h'.next = h.next → OM h' μ c a cap te.size (vs ++ new) → OM h' (mkNew μ h.next c) c a cap te.size (vs ++ new) := by
    intro h' hnx O'
    refine O'.keep (S := fun _ => False) (fun x => x) ⟨Nat.le_refl _, fun i hi => mkNew_old (by omega), fun _ _ _ => rfl, fun _ _ _ => rfl, fun _ _ => rfl⟩
  by_cases hroom : l + n ≤ cap
  · rw [Nat.ble_eq_true_of_le hroom]
    simp only
    rcases O.mem with ⟨rfl, rfl⟩ | ⟨i, off, rfl, hi, hm, r, kk⟩
    · have h0 : n = 0 := by omega
      have : new = [] := List.eq_nil_of_length_eq_zero (by rw [hn, h0]; simp)
      subst this
      refine ⟨none, 0, h, rfl, ?_, hroom, ?_⟩
      · rw [List.append_nil]; exact O.keep (S := fun _ => False) (fun x => x) ⟨Nat.le_refl _, fun i hi => mkNew_old hi, fun _ _ _ => rfl, fun _ _ _ => rfl, fun _ _ => rfl⟩
      · exact ⟨Nat.le_refl _, fun i hi => mkNew_old hi, fun _ _ _ => rfl, fun _ _ _ => rfl, fun _ _ => rfl⟩
    · obtain ⟨h3, e3, O3, C3, n3⟩ := OM.wrL new O (by rw [hl, hn, ← Nat.add_mul]; exact Nat.mul_le_mul_right _ hroom) ha
      rw [hl] at e3
      refine ⟨some ⟨i, off, none⟩, cap, h3, by simp only; rw [e3], keepμ n3 O3, hroom, ⟨C3.le, fun i hi => mkNew_old hi, C3.obj, C3.fam, C3.ty⟩⟩
  · rw [show Nat.ble (l + n) cap = false from by rw [← Bool.not_eq_true, Nat.ble_eq]; exact hroom]
    simp only
    rw [show roomy (l + n) te.bytes = true from Nat.ble_eq_true_of_le r1, Nat.ble_eq_true_of_le r2, ha, hz]
    simp only [Bool.and_self]
    rcases O.mem with ⟨rfl, rfl⟩ | ⟨i, off, rfl, hi, hm, r, kk⟩
    · have h0 : l = 0 := by omega
      subst h0
      have : vs = [] := List.eq_nil_of_length_eq_zero (by simpa using hl)
      subst this
      obtain ⟨h3, e3, O3, C3⟩ := newRow_ok (h := h) (μ := μ) (c := c) (S := (· = c)) ha hn
      refine ⟨some ⟨h.next, 0, none⟩, n, h3.tag h.next e, ?_, by simpa using O3.tag, by omega, C3.tag (Nat.le_refl _)⟩
      simp only [e3]
      simp
    · simp only
      rcases kk with ⟨t, m, ro, ho, hb, hro⟩ | ⟨f, g, lo, hi', t, ext, frz, ho, hf, hfn, hfm, h5, h6, h7⟩
      · rw [ho]; simp only
        rw [O.rdN hl]; simp only
        obtain ⟨h3, e3, O3, C3⟩ := newRow_ok (h := h) (μ := μ) (c := c) (S := (· = c)) (new := vs ++ new) (n := l + n) (sz := te.size) (by rw [allOne_append, O.one, ha]; rfl) hlen
        rw [e3]
        exact ⟨some ⟨h.next, 0, none⟩, l + n, h3.tag h.next e, rfl, O3.tag, Nat.le_refl _, C3.tag (Nat.le_refl _)⟩
      · rw [ho]; simp only
        rw [hf]; simp only
        have hcs : l * te.size ≤ cap * te.size := Nat.mul_le_mul_right _ hcap
        rw [Nat.beq_refl, Nat.beq_refl, Nat.ble_eq_true_of_le h5, Nat.ble_eq_true_of_le (show off + l * te.size ≤ hi' by omega), show Nat.beq (off + cap * te.size) hi' = true from by rw [h6, Nat.beq_refl], Nat.ble_eq_true_of_le (show frz ≤ off + l * te.size by omega)]
        simp only [Bool.and_self]
        refine ⟨some ⟨h.next, off, none⟩, l + n, AW.tagAs { h with next := h.next + 1, objs := h.objs.set h.next (.row f (nextGen ext (off + l * te.size) g) off (off + l * te.size + n * te.size) te.size (t.setL (off + l * te.size) new)), fams := h.fams.set f { gen := nextGen ext (off + l * te.size) g, ext := off + l * te.size + n * te.size, frz := frz } } h.next (h.tys.get? i) e, rfl, OM.tagAs (h := { h with next := h.next + 1, objs := h.objs.set h.next (.row f (nextGen ext (off + l * te.size) g) off (off + l * te.size + n * te.size) te.size (t.setL (off + l * te.size) new)), fams := h.fams.set f { gen := nextGen ext (off + l * te.size) g, ext := off + l * te.size + n * te.size, frz := frz } }) ⟨by rw [hlen]; exact Nat.le_refl _, by rw [allOne_append, O.one, ha]; rfl, .inr ⟨h.next, off, rfl, by simp only; omega, mkNew_new (Nat.le_refl _), fun j hj => ?_, .inr ⟨f, _, _, _, _, _, _, T.get?_set_same _ _ _, T.get?_set_same _ _ _, by simp only; omega, by rw [mkNew_old hfn, hfm], Nat.le_refl _, by rw [Nat.add_mul]; omega, by omega⟩⟩⟩, Nat.le_refl _, Chg.tagAs (h' := { h with next := h.next + 1, objs := h.objs.set h.next (.row f (nextGen ext (off + l * te.size) g) off (off + l * te.size + n * te.size) te.size (t.setL (off + l * te.size) new)), fams := h.fams.set f { gen := nextGen ext (off + l * te.size) g, ext := off + l * te.size + n * te.size, frz := frz } }) ⟨by simp only; omega, fun i hi => mkNew_old hi, fun k hk _ => T.get?_set_ne _ _ (by omega), fun k hk hnS => T.get?_set_ne _ _ (fun e => hnS (by rw [e, hfm])), fun _ _ => rfl⟩ (Nat.le_refl _)⟩
        unfold AW.rd
        simp only [T.get?_set_same]
        rw [List.length_append] at hj
        rw [Nat.beq_refl, Nat.ble_eq_true_of_le (show off ≤ off + j by omega), Nat.ble_eq_true_of_le (show off + j + 1 ≤ off + l * te.size + n * te.size by omega)]
        simp only [Bool.and_self]
        rw [T.get?_setL]
        by_cases hlt : j < vs.length
        · rw [if_neg (by omega), List.getElem?_append_left hlt]
          have := r j hlt
          unfold AW.rd at this
          rw [ho] at this; simp only at this
          rw [hf] at this; simp only at this
          rw [Nat.beq_refl, Nat.ble_eq_true_of_le (show lo ≤ off + j by omega), Nat.ble_eq_true_of_le (show off + j + 1 ≤ hi' by omega)] at this
          exact this
        · rw [if_pos (by omega), List.getElem?_append_right (by omega)]
          congr 1
          omega
/-- append of a slice to a slice that is owned. -/
theorem appendB_ok {ty e : TypeId} {te : TI} {ag : Bool} {s1 b1 : Nat} {z1 : Option Value} (h1 : tiOf P ty = some ⟨.slice e, ag, s1, b1, z1⟩) (h2 : tiOf P e = some te) (hz : te.zero.isSome = true) (hs : 0 < te.size) (O : OM h μ c a cap te.size vs) {l n m : Nat} (hl : vs.length = l * te.size)
    {b : Option Addr} {new : List Value} (X : Sl h b new) (hn : new.length = n * te.size) (ha : allOne new = true)
    (r1 : (l + n) * te.bytes ≤ 70368744177664) (r2 : l + n ≤ 4611686018427387904) (hcap : l ≤ cap) :
    ∃ a' cap' h', appendB P h ⟨[ty, ty]⟩ [.slice a l cap, .slice b n m] = some (.slice a' (l + n) cap', h') ∧ OM h' (mkNew μ h.next c) c a' cap' te.size (vs ++ new) ∧ l + n ≤ cap' ∧ Chg (· = c) h μ h' (mkNew μ h.next c) := by
  obtain ⟨a', cap', h', e', rest⟩ := appendV_ok (P := P) h2 hz O hl hn ha r1 r2 hcap
  refine ⟨a', cap', h', ?_, rest⟩
  unfold appendB
  simp only
  rw [h1]; simp only
  rw [h2]; simp only [isInt]
  rcases X with ⟨rfl, rfl⟩ | ⟨i, off, rfl, hr⟩
  · have : n = 0 := by
      rcases Nat.eq_zero_or_pos n with x | x
      · exact x
      · have := Nat.mul_pos x hs; simp at hn; omega
    subst this
    simp only [Nat.beq_refl]
    exact e'
  · simp only
    rw [← hn, Sl.rdN hr]
    exact e'
end Go.Abs
end

section
/- Fresh colours. -/
namespace Go.Abs
variable {S : Nat → Prop} {h h' : AW} {μ μ' : Paint} {c : Nat} {P : Program} {a : Option Addr} {cap sz : Nat} {vs : List Value}

/-- A colour that nothing bears as yet. -/
def Fresh (h : AW) (μ : Paint) (c : Nat) : Prop := ∀ i, i < h.next → μ i ≠ c
theorem Chg.fresh (C : Chg (fun k => S k ∨ k = c) h μ h' μ') (hf : Fresh h μ c) (d : Nat) : Chg S h μ h' (mkNew μ h.next d) := by
  refine ⟨C.le, fun i hi => mkNew_old hi, fun i hi hs => ?_, fun i hi hs => ?_, ?_⟩
  · exact C.obj i hi fun x => x.elim hs fun e => hf i hi e
  · exact C.fam i hi fun x => x.elim hs fun e => hf i hi e
  · exact fun i hi => C.ty i hi
theorem OM.fresh {h0 : AW} (O : OM h' μ' c a cap sz vs) (hf : Fresh h0 μ c) (hm : ∀ i, i < h0.next → μ' i = μ i) (d : Nat) : OM h' (mkNew μ h0.next d) d a cap sz vs := by
  refine ⟨O.le, O.one, ?_⟩
  have new : ∀ i, μ' i = c → mkNew μ h0.next d i = d := by
    intro i e
    refine mkNew_new ?_
    rcases Nat.lt_or_ge i h0.next with x | x
    · exact absurd (by rw [← hm i x, e]) (hf i x)
    · exact x
  rcases O.mem with x | ⟨i, off, e, h1, h2, r, k⟩
  · exact .inl x
  · refine .inr ⟨i, off, e, h1, new i h2, r, ?_⟩
    rcases k with x | ⟨f, g, lo, hi, t, ext, frz, h3, h4, h5, h6, h7⟩
    · exact .inl x
    · exact .inr ⟨f, g, lo, hi, t, ext, frz, h3, h4, h5, new f h6, h7⟩
theorem SM.repaint {h0 : AW} (X : SM h' μ' c a vs) (hf : Fresh h0 μ c) (hm : ∀ i, i < h0.next → μ' i = μ i) (d : Nat) : SM h' (mkNew μ h0.next d) d a vs := by
  have new : ∀ i, μ' i = c → mkNew μ h0.next d i = d := by
    intro i e
    refine mkNew_new ?_
    rcases Nat.lt_or_ge i h0.next with x | x
    · exact absurd (by rw [← hm i x, e]) (hf i x)
    · exact x
  rcases X with x | ⟨i, off, e, h1, h2, h3, r⟩
  · exact .inl x
  · refine .inr ⟨i, off, e, h1, new i h2, fun f g lo hi z t hr => ?_, r⟩
    obtain ⟨h4, h5⟩ := h3 f g lo hi z t hr
    exact ⟨h4, new f h5⟩
/-- What bore another colour keeps it. -/
theorem SM.other {h0 : AW} {e d : Nat} (X : SM h' μ' e a vs) (he : ∀ i, i < h'.next → μ' i = e → i < h0.next) (hm : ∀ i, i < h0.next → μ' i = μ i) : SM h' (mkNew μ h0.next d) e a vs := by
  rcases X with x | ⟨i, off, e1, h1, h2, h3, r⟩
  · exact .inl x
  · have hi := he i h1 h2
    refine .inr ⟨i, off, e1, h1, by rw [mkNew_old hi, ← hm i hi, h2], fun f g lo hi z t hr => ?_, r⟩
    obtain ⟨h4, h5⟩ := h3 f g lo hi z t hr
    have hf := he f h4 h5
    exact ⟨h4, by rw [mkNew_old hf, ← hm f hf, h5]⟩
/-- An empty block of no room. -/
theorem OM.empty : OM (h.addVar []) (mkNew μ h.next c) c (some ⟨h.next, 0, none⟩) 0 sz [] :=
  ⟨by simp, rfl, .inr ⟨h.next, 0, rfl, Nat.lt_succ_self _, mkNew_new (Nat.le_refl _), by simp, .inl ⟨_, _, _, T.get?_set_same _ _ _, by simp, fun e => (by cases e)⟩⟩⟩
/-- A new block as a slice. -/
theorem OM.block {l : List Value} {n : Nat} (hl : l.length = n * sz) (ha : allOne l = true) : OM (h.addVar l) (mkNew μ h.next c) c (some ⟨h.next, 0, none⟩) n sz l :=
  ⟨by omega, ha, .inr ⟨h.next, 0, rfl, Nat.lt_succ_self _, mkNew_new (Nat.le_refl _), fun j _ => by rw [Nat.zero_add, addVar_at.rd], .inl ⟨_, _, _, T.get?_set_same _ _ _, by omega, fun e => (by cases e)⟩⟩⟩
end Go.Abs
end

section
/- Named pieces of the heap: what is owned, piece by piece. -/
namespace Go.Abs
variable {S : Nat → Prop} {h h' : AW} {μ μ' : Paint} {P : Program}

inductive Res where
  | var (i : Nat) (l : List Value)
  | sl (a : Option Addr) (cap sz : Nat) (l : List Value)
  | map (i : Nat) (es : List (Value × Value))
  | ro (vs : List (Option Addr × List Value))
  | many (vs : List (Option Addr × Nat × Nat × List Value))
  | bag (vs : List (Option Addr × Nat × Nat × Nat))
  | ty (i : Nat) (t : TypeId)

/-- The family of a row. -/
def famOf (h : AW) (i : Nat) : Option Nat := match h.objs.get? i with
  | some (.row f _ _ _ _ _) => some f
  | _ => none
/-- Rows of one family are one row. -/
def Sep (h : AW) (as : List (Option Addr)) : Prop := ∀ i oi j oj f, some ⟨i, oi, none⟩ ∈ as → some ⟨j, oj, none⟩ ∈ as → famOf h i = some f → famOf h j = some f → i = j
theorem Sep.nil : Sep h [] := fun _ _ _ _ _ h => by simp at h
theorem Sep.one {a : Option Addr} : Sep h [a] := fun i oi j oj f h1 h2 _ _ => by
  simp only [List.mem_singleton] at h1 h2
  rw [← h2] at h1
  cases h1; rfl
theorem Sep.app {c d : Nat} (hcd : c ≠ d) {as bs : List (Option Addr)} (A : ∀ i o f, some ⟨i, o, none⟩ ∈ as → famOf h i = some f → μ f = c) (B : ∀ i o f, some ⟨i, o, none⟩ ∈ bs → famOf h i = some f → μ f = d) (S1 : Sep h as) (S2 : Sep h bs) : Sep h (as ++ bs) := fun i oi j oj f h1 h2 e1 e2 => by
  rcases List.mem_append.1 h1 with x | x <;> rcases List.mem_append.1 h2 with y | y
  · exact S1 i oi j oj f x y e1 e2
  · exact absurd ((A i oi f x e1).symm.trans (B j oj f y e2)) hcd
  · exact absurd ((A j oj f y e2).symm.trans (B i oi f x e1)) hcd
  · exact S2 i oi j oj f x y e1 e2
theorem OM.at_ {c i off cap sz : Nat} {l : List Value} (M : OM h μ c (some ⟨i, off, none⟩) cap sz l) : i < h.next ∧ μ i = c := by
  rcases M.mem with ⟨e, _⟩ | ⟨i', off', e, h1, h2, _⟩
  · cases e
  · cases e; exact ⟨h1, h2⟩
theorem OM.fam {c i off cap sz f : Nat} {l : List Value} (M : OM h μ c (some ⟨i, off, none⟩) cap sz l) (hf : famOf h i = some f) : μ f = c := by
  rcases M.mem with ⟨e, _⟩ | ⟨i', off', e, _, _, _, k⟩
  · cases e
  · cases e
    unfold famOf at hf
    rcases k with ⟨t, n, ro, h1, _⟩ | ⟨f', g, lo, hi, t, ext, frz, h1, _, _, h4, _⟩
    · rw [h1] at hf; cases hf
    · rw [h1] at hf; cases hf; exact h4
theorem Sep.keep {c : Nat} {as : List (Option Addr)} (X : Sep h as) (A : ∀ i o, some ⟨i, o, none⟩ ∈ as → i < h.next ∧ μ i = c) (hs : ¬ S c) (C : Chg S h μ h' μ') : Sep h' as := fun i oi j oj f h1 h2 e1 e2 => by
  have k : ∀ i o, some ⟨i, o, none⟩ ∈ as → famOf h' i = famOf h i := fun i o hm => by
    obtain ⟨a1, a2⟩ := A i o hm
    unfold famOf
    rw [C.obj i a1 (by rw [a2]; exact hs)]
  rw [k i oi h1] at e1
  rw [k j oj h2] at e2
  exact X i oi j oj f h1 h2 e1 e2

def Res.Holds (h : AW) (μ : Paint) (c : Nat) : Res → Prop
  | .var i l => i < h.next ∧ μ i = c ∧ VarAt h i l
  | .sl a cap sz l => OM h μ c a cap sz l
  | .map i es => i < h.next ∧ μ i = c ∧ h.objs.get? i = some (.map es)
  | .ro vs => ∀ a l, (a, l) ∈ vs → SM h μ c a l
  | .many vs => (∀ a cap sz l, (a, cap, sz, l) ∈ vs → OM h μ c a cap sz l) ∧ Sep h (vs.map (·.1))
  | .bag vs => (∀ a cap sz n, (a, cap, sz, n) ∈ vs → ∃ l, l.length = n ∧ OM h μ c a cap sz l) ∧ Sep h (vs.map (·.1))
  | .ty i t => i < h.next ∧ h.tys.get? i = some t

theorem many_at {c : Nat} {vs : List (Option Addr × Nat × Nat × List Value)} (H : ∀ a cap sz l, (a, cap, sz, l) ∈ vs → OM h μ c a cap sz l) : ∀ i o, some ⟨i, o, none⟩ ∈ vs.map (·.1) → i < h.next ∧ μ i = c := fun i o hm => by
  obtain ⟨⟨a, cap, sz, l⟩, h1, e⟩ := List.mem_map.1 hm
  simp only at e
  subst e
  exact (H _ _ _ _ h1).at_
theorem many_fam {c : Nat} {vs : List (Option Addr × Nat × Nat × List Value)} (H : ∀ a cap sz l, (a, cap, sz, l) ∈ vs → OM h μ c a cap sz l) : ∀ i o f, some ⟨i, o, none⟩ ∈ vs.map (·.1) → famOf h i = some f → μ f = c := fun i o f hm hf => by
  obtain ⟨⟨a, cap, sz, l⟩, h1, e⟩ := List.mem_map.1 hm
  simp only at e
  subst e
  exact (H _ _ _ _ h1).fam hf
theorem bag_at {c : Nat} {vs : List (Option Addr × Nat × Nat × Nat)} (H : ∀ a cap sz n, (a, cap, sz, n) ∈ vs → ∃ l, l.length = n ∧ OM h μ c a cap sz l) : ∀ i o, some ⟨i, o, none⟩ ∈ vs.map (·.1) → i < h.next ∧ μ i = c := fun i o hm => by
  obtain ⟨⟨a, cap, sz, l⟩, h1, e⟩ := List.mem_map.1 hm
  simp only at e
  subst e
  obtain ⟨l, _, M⟩ := H _ _ _ _ h1
  exact M.at_
theorem Res.Holds.keep {c : Nat} {r : Res} (H : r.Holds h μ c) (hs : ¬ S c) (C : Chg S h μ h' μ') : r.Holds h' μ' c := by
  cases r with
  | var i l =>
    obtain ⟨a, b, V⟩ := H
    exact ⟨Nat.lt_of_lt_of_le a C.le, by rw [C.mark i a, b], V.keep a (by rw [b]; exact hs) C⟩
  | sl a cap sz l => exact OM.keep H hs C
  | map i es =>
    obtain ⟨a, b, V⟩ := H
    exact ⟨Nat.lt_of_lt_of_le a C.le, by rw [C.mark i a, b], by rw [C.obj i a (by rw [b]; exact hs), V]⟩
  | ro vs => exact fun a l hm => SM.keep (H a l hm) hs C
  | many vs => exact ⟨fun a cap sz l hm => OM.keep (H.1 a cap sz l hm) hs C, H.2.keep (many_at H.1) hs C⟩
  | bag vs => exact ⟨fun a cap sz n hm => let ⟨l, h1, h2⟩ := H.1 a cap sz n hm; ⟨l, h1, OM.keep h2 hs C⟩, H.2.keep (bag_at H.1) hs C⟩
  | ty i t => exact ⟨Nat.lt_of_lt_of_le H.1 C.le, by rw [C.ty i H.1]; exact H.2⟩

/-- Names of pieces. -/
abbrev Store := Nat → Option Res
def Store.upd (ρ : Store) (c : Nat) (r : Res) : Store := fun d => if d = c then some r else ρ d
theorem upd_same {ρ : Store} {c : Nat} {r : Res} : ρ.upd c r c = some r := by simp [Store.upd]
theorem upd_ne {ρ : Store} {c d : Nat} {r : Res} (h : d ≠ c) : ρ.upd c r d = ρ d := by simp [Store.upd, h]
theorem upd_upd {ρ : Store} {c : Nat} {r r' : Res} : (ρ.upd c r).upd c r' = ρ.upd c r' := by
  funext d; unfold Store.upd; split <;> rfl
theorem upd_self {ρ : Store} {c : Nat} {r : Res} (h : ρ c = some r) : ρ.upd c r = ρ := by
  funext d; unfold Store.upd; split
  · rename_i e; subst e; exact h.symm
  · rfl
/-- What is there is not what is new. -/
theorem name_ne {ρ : Store} {c d : Nat} {r : Res} (hc : ρ c = none) (hd : ρ d = some r) : d ≠ c := by
  rintro rfl; rw [hc] at hd; cases hd
theorem upd_old {ρ : Store} {c d : Nat} {r r' : Res} (hc : ρ c = none) (hd : ρ d = some r') : ρ.upd c r d = some r' := by
  rw [upd_ne (name_ne hc hd), hd]

structure Own (h : AW) (μ : Paint) (ρ : Store) : Prop where
  fin : ∃ N, ∀ c, N ≤ c → ρ c = none
  holds : ∀ c r, ρ c = some r → r.Holds h μ c

variable {ρ ρ' : Store} {c : Nat}
theorem Own.fresh (O : Own h μ ρ) : ∃ c, ρ c = none := by
  obtain ⟨N, hN⟩ := O.fin
  exact ⟨N, hN N (Nat.le_refl _)⟩
/-- A piece turned. -/
theorem Own.step (O : Own h μ ρ) {r : Res} (C : Chg (· = c) h μ h' μ') (H : r.Holds h' μ' c) : Own h' μ' (ρ.upd c r) := by
  refine ⟨?_, fun d r' hd => ?_⟩
  · obtain ⟨N, hN⟩ := O.fin
    refine ⟨Nat.max N (c + 1), fun d hd => ?_⟩
    have h1 : N ≤ d := Nat.le_trans (Nat.le_max_left _ _) hd
    have h2 : c + 1 ≤ d := Nat.le_trans (Nat.le_max_right _ _) hd
    rw [upd_ne (by omega)]; exact hN d h1
  · by_cases e : d = c
    · subst e; rw [upd_same] at hd; cases hd; exact H
    · rw [upd_ne e] at hd
      exact (O.holds d r' hd).keep e C
/-- Fewer names. -/
theorem Own.mono (O : Own h μ ρ) (hs : ∀ d r, ρ' d = some r → ρ d = some r) : Own h μ ρ' := by
  refine ⟨?_, fun d r hd => O.holds d r (hs d r hd)⟩
  obtain ⟨N, hN⟩ := O.fin
  refine ⟨N, fun d hd => ?_⟩
  cases hx : ρ' d with
  | none => rfl
  | some r => have := hs d r hx; rw [hN d hd] at this; cases this
theorem Own.drop {r : Res} (O : Own h μ (ρ.upd c r)) (hc : ρ c = none) : Own h μ ρ := O.mono fun d r' hd => upd_old hc hd
theorem Own.quiet (O : Own h μ ρ) (C : Chg (fun _ => False) h μ h' μ') : Own h' μ' ρ := ⟨O.fin, fun d r hd => (O.holds d r hd).keep (fun x => x) C⟩

/-! Blocks. -/
theorem Own.rd (O : Own h μ ρ) {i : Nat} {l : List Value} (hc : ρ c = some (.var i l)) (j : Nat) : h.rd i j = l[j]? := (O.holds _ _ hc).2.2.rd j
theorem o_rd (O : Own h μ ρ) {i j : Nat} {l : List Value} {v : Value} {f : Value → Prop} (hc : ρ c = some (.var i l)) (hv : l[j]? = some v) (H : f v) : oB (h.rd i j) f := by
  rw [O.rd hc, hv]; exact H
theorem o_wr (O : Own h μ ρ) {i j : Nat} {l : List Value} {v : Value} {f : AW → Prop} (hc : ρ c = some (.var i l)) (hj : j < l.length) (h1 : oneCell v = true)
    (H : ∀ h', Own h' μ (ρ.upd c (.var i (l.set j v))) → f h') : oB (h.wr i j v) f := by
  obtain ⟨a, b, V⟩ := O.holds _ _ hc
  obtain ⟨h', e, V', C, n⟩ := V.chg (S := (· = c)) hj h1 b
  rw [e]
  exact H h' (O.step C ⟨by rw [n]; exact a, b, V'⟩)
def setAll (l : List Value) (j : Nat) : List Value → List Value
  | [] => l
  | v :: vs => setAll (l.set j v) (j + 1) vs
theorem o_wrL {i : Nat} : ∀ (vs : List Value) {h : AW} {ρ : Store} {l : List Value} {j : Nat} {f : AW → Prop}, Own h μ ρ → ρ c = some (.var i l) → j + vs.length ≤ l.length → allOne vs = true →
    (∀ h', Own h' μ (ρ.upd c (.var i (setAll l j vs))) → f h') → oB (h.wrL i j vs) f
  | [], h, ρ, l, j, f, O, hc, _, _, H => H h (by rw [setAll, upd_self hc]; exact O)
  | v :: vs, h, ρ, l, j, f, O, hc, hj, ha, H => by
    simp only [allOne] at ha
    split at ha
    · rename_i h1
      simp only [List.length_cons] at hj
      obtain ⟨a, b, V⟩ := O.holds _ _ hc
      obtain ⟨h', e, V', C, n⟩ := V.chg (S := (· = c)) (j := j) (by omega) h1 b
      have O' := O.step (r := .var i (l.set j v)) C ⟨by rw [n]; exact a, b, V'⟩
      have := o_wrL vs (f := f) O' upd_same (j := j + 1) (by simp; omega) ha (fun h2 O2 => H h2 (by rw [upd_upd] at O2; exact O2))
      simp only [AW.wrL, e]
      exact this
    · cases ha
theorem o_addVar (O : Own h μ ρ) (c : Nat) {l : List Value} : Own (h.addVar l) (mkNew μ h.next c) (ρ.upd c (.var h.next l)) :=
  O.step addVar_chg ⟨Nat.lt_succ_self _, mkNew_new (Nat.le_refl _), addVar_at⟩
/-- A new block that is a slice. -/
theorem o_block (O : Own h μ ρ) (c : Nat) {l : List Value} {n sz : Nat} (hl : l.length = n * sz) (ha : allOne l = true) : Own (h.addVar l) (mkNew μ h.next c) (ρ.upd c (.sl (some ⟨h.next, 0, none⟩) n sz l)) :=
  O.step addVar_chg (OM.block hl ha)
/-! Slices. -/
theorem Own.sl (O : Own h μ ρ) {a : Option Addr} {cap sz : Nat} {l : List Value} (hc : ρ c = some (.sl a cap sz l)) : Sl h a l := OM.sl (O.holds _ _ hc)
theorem Own.ro (O : Own h μ ρ) {a : Option Addr} {l : List Value} {vs : List (Option Addr × List Value)} (hc : ρ c = some (.ro vs)) (hm : (a, l) ∈ vs) : Sl h a l := (O.holds _ _ hc a l hm).sl
/-- An element's place. -/
theorem Sl.ix {a : Option Addr} {l : List Value} (X : Sl h a l) {z : Int} {j n sz : Nat} (hz : z = j) (hn : l.length = n * sz) (h0 : 0 < sz) (hj : j < n) {f : Nat → Nat → Nat → Prop}
    (H : ∀ i off, a = some ⟨i, off, none⟩ → (∀ k, k < sz → h.rd i (off + j * sz + k) = l[j * sz + k]?) → f i off j) : aP a fun i off => oB (natIdx z n) fun j => f i off j := by
  subst hz
  have hlt : ∀ k, k < sz → j * sz + k < l.length := fun k hk => by
    have : (j + 1) * sz ≤ n * sz := Nat.mul_le_mul_right _ hj
    rw [Nat.add_mul, Nat.one_mul] at this; omega
  rcases X with ⟨rfl, rfl⟩ | ⟨i, off, rfl, hr⟩
  · have := hlt 0 h0; simp at this
  · simp only [aP_some]
    rw [natIdx_eq hj]
    exact H i off rfl fun k hk => by rw [Nat.add_assoc]; exact hr _ (hlt k hk)
/-- An element of one cell. -/
theorem Sl.i1 {a : Option Addr} {l : List Value} (X : Sl h a l) {z : Int} {j n : Nat} {v : Value} (hz : z = j) (hn : n = l.length) (hv : l[j]? = some v) {f : Value → Prop} (H : f v) : aP a fun i off => oB (natIdx z n) fun j => oB (h.rd i (off + j * 1)) f := X.at1 hz hn hv H
/-- A write in place. -/
theorem o_sl_wr (O : Own h μ ρ) {i off j cap sz : Nat} {l : List Value} {v : Value} {f : AW → Prop} (hc : ρ c = some (.sl (some ⟨i, off, none⟩) cap sz l)) (hj : j < l.length) (h1 : oneCell v = true)
    (H : ∀ h', Own h' μ (ρ.upd c (.sl (some ⟨i, off, none⟩) cap sz (l.set j v))) → f h') : oB (h.wr i (off + j) v) f := by
  have M : OM h μ c _ cap sz l := O.holds _ _ hc
  obtain ⟨h', e, M', C, n⟩ := M.wr (j := j) (Nat.lt_of_lt_of_le hj M.le) (Nat.le_of_lt hj) h1
  rw [if_pos hj] at M'
  rw [e]
  exact H h' (O.step C M')
/-- An element of one cell, written. -/
theorem o_i1_wr (O : Own h μ ρ) {a : Option Addr} {cap : Nat} {l : List Value} (hc : ρ c = some (.sl a cap 1 l)) {z : Int} {j n : Nat} {v : Value} (hz : z = j) (hn : n = l.length) (hj : j < l.length) (h1 : oneCell v = true) {f : AW → Prop}
    (H : ∀ h', Own h' μ (ρ.upd c (.sl a cap 1 (l.set j v))) → f h') : aP a fun i off => oB (natIdx z n) fun j => oB (h.wr i (off + j * 1) v) f := by
  refine (O.sl hc).ix (sz := 1) hz (by omega) (by omega) (by omega) fun i off e _ => ?_
  subst e
  rw [Nat.mul_one]
  exact o_sl_wr O hc hj h1 H
/-- append. -/
theorem o_app (O : Own h μ ρ) {ty e : TypeId} {te : TI} {ag : Bool} {s1 b1 : Nat} {z1 : Option Value} (h1 : tiOf P ty = some ⟨.slice e, ag, s1, b1, z1⟩) (h2 : tiOf P e = some te) (hz : te.zero.isSome = true) (hs : 0 < te.size)
    {a : Option Addr} {cap : Nat} {l : List Value} (hc : ρ c = some (.sl a cap te.size l)) {n m k : Nat} (hl : l.length = n * te.size) {b : Option Addr} {new : List Value} (X : Sl h b new) (hn : new.length = m * te.size) (ha : allOne new = true)
    (r1 : (n + m) * te.bytes ≤ 70368744177664) (r2 : n + m ≤ 4611686018427387904) {f : Value → AW → Prop}
    (H : ∀ a' cap' h' μ', Own h' μ' (ρ.upd c (.sl a' cap' te.size (l ++ new))) → f (.slice a' (n + m) cap') h') : oP (appendB P h ⟨[ty, ty]⟩ [.slice a n cap, .slice b m k]) f := by
  have M : OM h μ c a cap te.size l := O.holds _ _ hc
  have hcap : n ≤ cap := by
    have := M.le; rw [hl] at this
    exact Nat.le_of_mul_le_mul_right this hs
  obtain ⟨a', cap', h', e', M', _, C⟩ := appendB_ok (P := P) (m := k) h1 h2 hz hs M hl X hn ha r1 r2 hcap
  rw [e']
  exact H a' cap' h' _ (O.step C M')

end Go.Abs
end

section
/- Lists of blocks of equal length; small words on strings and slices. -/
namespace Go.Abs

section
variable {α β : Type} {f : α → List β} {sz : Nat}
end

abbrev Str := ByteArray
abbrev e0 : Str := ⟨#[]⟩
abbrev strs (l : List Str) : List Value := l.map Value.string
abbrev big : Nat := 1000000000
theorem wrapS {j : Nat} (h : j < 4611686018427387904) : IntKind.wrap .i64 ((j : Int) + 1) = ((j + 1 : Nat) : Int) := by
  have := wrap_small (n := (j : Int) + 1) (by omega) (by omega)
  rw [this]; omega
theorem wrap_sm {n : Int} (h1 : -2000000000 ≤ n) (h2 : n ≤ 2000000000) : IntKind.wrap .i64 n = n := wrap_small (Int.le_trans (by decide) h1) (Int.lt_of_le_of_lt h2 (by decide))
theorem ltI {j n : Nat} (h : j < n) : decide ((j : Int) < (n : Int)) = true := by simp; omega
theorem geI {j n : Nat} (h : n ≤ j) : decide ((j : Int) < (n : Int)) = false := by simp; omega
theorem allOne_strs {l : List Str} : allOne (strs l) = true := allOne_of fun v hv => by
  obtain ⟨s, _, rfl⟩ := List.mem_map.1 hv
  rfl
def memB (s : Str) (x : List Str) : Bool := x.any fun t => bEq s t
theorem memB_iff {s : Str} {x : List Str} : memB s x = true ↔ s ∈ x := by
  unfold memB
  rw [List.any_eq_true]
  exact ⟨fun ⟨t, ht, e⟩ => by rw [bEq_iff.1 e]; exact ht, fun h => ⟨s, h, bEq_self⟩⟩
instance decMemStr (s : ByteArray) (x : List ByteArray) : Decidable (s ∈ x) := decidable_of_iff (memB s x = true) memB_iff
end Go.Abs
end

section
/- Some pieces under one's eyes: what stands where, and what was not touched. -/
namespace Go.Abs
variable {h h' : AW} {μ μ' : Paint} {P : Program} {ρ0 ρ ρ' : Store} {ns : List Nat} {rs : List Res} {c : Nat}

/-- What is not of these names stays. -/
def Fra (ns : List Nat) (ρ ρ' : Store) : Prop := ∀ c r, c ∉ ns → ρ c = some r → ρ' c = some r
theorem Fra.refl : Fra ns ρ ρ := fun _ _ _ h => h
theorem Fra.trans {ρ'' : Store} (a : Fra ns ρ ρ') (b : Fra ns ρ' ρ'') : Fra ns ρ ρ'' := fun c r hn hc => b c r hn (a c r hn hc)
theorem Fra.mono {ms : List Nat} (a : Fra ns ρ ρ') (hs : ∀ c, c ∈ ns → c ∈ ms) : Fra ms ρ ρ' := fun c r hn hc => a c r (fun x => hn (hs c x)) hc
theorem Fra.upd {r : Res} (a : Fra ns ρ ρ') (hc : c ∈ ns) : Fra ns ρ (ρ'.upd c r) := fun d r' hn hd => by
  rw [upd_ne (fun e => hn (by rw [e]; exact hc))]; exact a d r' hn hd
theorem Fra.new {r : Res} (a : Fra ns ρ ρ') (hc : ρ' c = none) : Fra ns ρ (ρ'.upd c r) := fun d r' hn hd => upd_old hc (a d r' hn hd)
/-- What only names of ns1 turned, seen with more names. -/
theorem Fra.call {ns1 : List Nat} {ρ'' : Store} (a : Fra ns ρ ρ') (b : Fra ns1 ρ' ρ'') (hs : ∀ c, c ∈ ns1 → c ∈ ns ∨ ρ c = none) : Fra ns ρ ρ'' := fun c r hn hc =>
  b c r (fun x => by rcases hs c x with y | y
                     · exact hn y
                     · rw [hc] at y; cases y) (a c r hn hc)

structure Pcs (ρ0 ρ : Store) (ns : List Nat) (rs : List Res) : Prop where
  nodup : ns.Nodup
  len : ns.length = rs.length
  at_ : ∀ (i : Nat) (c : Nat) (r : Res), ns[i]? = some c → rs[i]? = some r → ρ c = some r
  fra : Fra ns ρ0 ρ

theorem Pcs.init (hd : ns.Nodup) (hl : ns.length = rs.length) (ha : ∀ (i : Nat) (c : Nat) (r : Res), ns[i]? = some c → rs[i]? = some r → ρ c = some r) : Pcs ρ ρ ns rs := ⟨hd, hl, ha, Fra.refl⟩
theorem Pcs.get (W : Pcs ρ0 ρ ns rs) (i : Nat) {r : Res} (hr : rs[i]? = some r) : ∃ c, ns[i]? = some c ∧ ρ c = some r := by
  have hi : i < ns.length := by rw [W.len]; exact (List.getElem?_eq_some_iff.1 hr).1
  exact ⟨ns[i], List.getElem?_eq_getElem hi, W.at_ i _ _ (List.getElem?_eq_getElem hi) hr⟩
theorem Pcs.set (W : Pcs ρ0 ρ ns rs) (i : Nat) (hc : ns[i]? = some c) (r : Res) : Pcs ρ0 (ρ.upd c r) ns (rs.set i r) := by
  refine ⟨W.nodup, by simp [W.len], fun j d r' hd hr => ?_, W.fra.upd (List.mem_of_getElem? hc)⟩
  rw [List.getElem?_set] at hr
  split at hr
  · rename_i e; subst e
    rw [hc] at hd; cases hd
    split at hr
    · cases hr; exact upd_same
    · cases hr
  · rename_i e
    have hi := (List.getElem?_eq_some_iff.1 hc).1
    have hj := (List.getElem?_eq_some_iff.1 hd).1
    rw [upd_ne, W.at_ j d r' hd hr]
    intro e2; subst e2
    have := (List.getElem_inj (h₀ := hj) (h₁ := hi) W.nodup).1 (by rw [(List.getElem?_eq_some_iff.1 hc).2, (List.getElem?_eq_some_iff.1 hd).2])
    exact e this.symm
/-- A new name that nobody asks for. -/
theorem Pcs.tmp (W : Pcs ρ0 ρ ns rs) (hc : ρ c = none) (r : Res) : Pcs ρ0 (ρ.upd c r) ns rs :=
  ⟨W.nodup, W.len, fun j d r' hd hr => upd_old hc (W.at_ j d r' hd hr), W.fra.new hc⟩
theorem Pcs.notin (W : Pcs ρ0 ρ ns rs) (hc : ρ c = none) : c ∉ ns := fun hm => by
  obtain ⟨i, hi⟩ := List.getElem?_of_mem hm
  have hlt : i < rs.length := by rw [← W.len]; exact (List.getElem?_eq_some_iff.1 hi).1
  have := W.at_ i c _ hi (List.getElem?_eq_getElem hlt)
  rw [hc] at this; cases this
theorem Pcs.not0 (W : Pcs ρ0 ρ ns rs) (hc : ρ c = none) : ρ0 c = none := by
  cases hx : ρ0 c with
  | none => rfl
  | some r => rw [W.fra c r (W.notin hc) hx] at hc; cases hc
/-- A new name under one's eyes too. -/
theorem Pcs.new (W : Pcs ρ0 ρ ns rs) (hc : ρ c = none) (r : Res) : Pcs ρ0 (ρ.upd c r) (c :: ns) (r :: rs) := by
  refine ⟨List.nodup_cons.2 ⟨W.notin hc, W.nodup⟩, by simp [W.len], fun j d r' hd hr => ?_, fun d r' hn hd => ?_⟩
  · cases j with
    | zero => simp at hd hr; subst hd hr; exact upd_same
    | succ j => simp at hd hr; exact upd_old hc (W.at_ j d r' hd hr)
  · exact upd_old hc (W.fra d r' (fun x => hn (List.mem_cons_of_mem _ x)) hd)

theorem Pcs.tail {r : Res} (W : Pcs ρ0 ρ (c :: ns) (r :: rs)) (hc : ρ0 c = none) : Pcs ρ0 ρ ns rs :=
  ⟨(List.nodup_cons.1 W.nodup).2, by have := W.len; simpa using this, fun i d r' hd hr => W.at_ (i + 1) d r' (by simpa using hd) (by simpa using hr), fun d r' hn hd => W.fra d r' (fun x => by
    rcases List.mem_cons.1 x with rfl | y
    · rw [hc] at hd; cases hd
    · exact hn y) hd⟩
/-- A new name, behind the others. -/
theorem Pcs.snoc (W : Pcs ρ0 ρ ns rs) (hc : ρ c = none) (r : Res) : Pcs ρ0 (ρ.upd c r) (ns ++ [c]) (rs ++ [r]) := by
  refine ⟨?_, by simp [W.len], fun j d r' hd hr => ?_, fun d r' hn hd => ?_⟩
  · rw [List.nodup_append]
    refine ⟨W.nodup, by simp, fun a ha b hb => ?_⟩
    simp at hb; subst hb
    rintro rfl; exact W.notin hc ha
  · rcases Nat.lt_or_ge j ns.length with x | x
    · rw [List.getElem?_append_left x] at hd
      rw [List.getElem?_append_left (by rw [← W.len]; exact x)] at hr
      exact upd_old hc (W.at_ j d r' hd hr)
    · rw [List.getElem?_append_right x] at hd
      rw [List.getElem?_append_right (by rw [← W.len]; exact x), ← W.len] at hr
      cases hj : j - ns.length with
      | zero => rw [hj] at hd hr; simp at hd hr; subst hd hr; exact upd_same
      | succ k => rw [hj] at hd; simp at hd
  · exact upd_old hc (W.fra d r' (fun x => hn (List.mem_append_left _ x)) hd)
/-- Whose names: the old ones, and new ones. -/
def FrN (ns : List Nat) (ρ : Store) (ns' : List Nat) (ρ' : Store) : Prop := Fra ns ρ ρ' ∧ (∀ c, c ∈ ns' → c ∈ ns ∨ ρ c = none) ∧ ∀ c, c ∈ ns → c ∈ ns'
theorem FrN.refl : FrN ns ρ ns ρ := ⟨Fra.refl, fun _ h => .inl h, fun _ h => h⟩
theorem FrN.of (F : Fra ns ρ ρ') : FrN ns ρ ns ρ' := ⟨F, fun _ h => .inl h, fun _ h => h⟩
theorem FrN.trans {ns' ns'' : List Nat} {ρ'' : Store} (a : FrN ns ρ ns' ρ') (b : FrN ns' ρ' ns'' ρ'') : FrN ns ρ ns'' ρ'' := by
  refine ⟨fun c r hn hc => b.1 c r (fun x => ?_) (a.1 c r hn hc), fun c hc => ?_, fun c hc => b.2.2 c (a.2.2 c hc)⟩
  · rcases a.2.1 c x with y | y
    · exact hn y
    · rw [hc] at y; cases y
  · rcases b.2.1 c hc with x | x
    · exact a.2.1 c x
    · by_cases hn : c ∈ ns
      · exact .inl hn
      · refine .inr ?_
        cases hx : ρ c with
        | none => rfl
        | some r => rw [a.1 c r hn hx] at x; cases x
/-- What is nobody's behind a call was nobody's. -/
theorem FrN.none {ns' : List Nat} (a : FrN ns ρ ns' ρ') {c : Nat} (hn : c ∉ ns') (hc : ρ' c = none) : ρ c = none := by
  cases hz : ρ c with
  | none => rfl
  | some r => rw [a.1 c r (fun x => hn (a.2.2 c x)) hz] at hc; cases hc
/-- Without the first. -/
theorem Pcs.tail' {r : Res} (W : Pcs ρ ρ (c :: ns) (r :: rs)) : Pcs ρ ρ ns rs :=
  ⟨(List.nodup_cons.1 W.nodup).2, by have := W.len; simpa using this, fun i d r' hd hr => W.at_ (i + 1) d r' (by simpa using hd) (by simpa using hr), Fra.refl⟩
theorem Pcs.self (W : Pcs ρ0 ρ ns rs) : Pcs ρ ρ ns rs := ⟨W.nodup, W.len, W.at_, Fra.refl⟩
theorem Pcs.to {rs' : List Res} (W : Pcs ρ0 ρ ns rs) (e : rs = rs') : Pcs ρ ρ ns rs' := e ▸ W.self
theorem Pcs.eq {rs' : List Res} (W : Pcs ρ0 ρ ns rs) (e : rs = rs') : Pcs ρ0 ρ ns rs' := e ▸ W
theorem Pcs.names {ns' : List Nat} (W : Pcs ρ0 ρ ns rs) (e : ns = ns') : Pcs ρ0 ρ ns' rs := e ▸ W
/-- Seen from an earlier store. -/
theorem Pcs.back {ρ1 : Store} (W : Pcs ρ0 ρ ns rs) (F : Fra ns ρ1 ρ0) : Pcs ρ1 ρ ns rs := ⟨W.nodup, W.len, W.at_, F.trans W.fra⟩
/-- Others' turns. -/
theorem Pcs.keep {ms : List Nat} (W : Pcs ρ0 ρ ns rs) (F : Fra ms ρ ρ') (hd : ∀ c, c ∈ ms → c ∉ ns) : Pcs ρ' ρ' ns rs :=
  ⟨W.nodup, W.len, fun i c r hc hr => F c r (fun x => hd c x (List.mem_of_getElem? hc)) (W.at_ i c r hc hr), Fra.refl⟩
/-- What a call made anew. -/
theorem Pcs.adopt {r : Res} (W : Pcs ρ0 ρ ns rs) (V : Pcs ρ ρ' [c] [r]) (hc : ρ c = none) : Pcs ρ0 ρ' (c :: ns) (r :: rs) := by
  have hn := W.notin hc
  have h0 := W.not0 hc
  refine ⟨List.nodup_cons.2 ⟨hn, W.nodup⟩, by simp [W.len], fun i d s hd hs => ?_, fun d s hd hs => ?_⟩
  · cases i with
    | zero => exact V.at_ 0 d s (by simpa using hd) (by simpa using hs)
    | succ i =>
      simp at hd hs
      refine V.fra d s (fun hm => hn ?_) (W.at_ i d s hd hs)
      simp at hm; subst hm; exact List.mem_of_getElem? hd
  · simp only [List.mem_cons, not_or] at hd
    exact V.fra d s (fun hm => by simp at hm; exact hd.1 hm) (W.fra d s hd.2 hs)
/-- What a call turned. -/
theorem Pcs.put {r : Res} {i : Nat} (W : Pcs ρ0 ρ ns rs) (hc : ns[i]? = some c) (V : Pcs ρ ρ' [c] [r]) : Pcs ρ0 ρ' ns (rs.set i r) := by
  refine ⟨W.nodup, by simp [W.len], fun j d s hd hs => ?_, fun d s hd hs => V.fra d s (fun hm => hd (by simp at hm; subst hm; exact List.mem_of_getElem? hc)) (W.fra d s hd hs)⟩
  rw [List.getElem?_set] at hs
  have hi := List.getElem?_eq_some_iff.1 hc
  have hj := List.getElem?_eq_some_iff.1 hd
  split at hs
  · rename_i e; subst e
    rw [hc] at hd; cases hd
    split at hs
    · cases hs; exact V.at_ 0 _ _ rfl rfl
    · cases hs
  · rename_i e
    refine V.fra d s (fun hm => ?_) (W.at_ j d s hd hs)
    simp at hm; subst hm
    exact e ((List.getElem_inj (h₀ := hi.1) (h₁ := hj.1) W.nodup).1 (by rw [hi.2, hj.2]))
/-- Without the second. -/
theorem Pcs.tail2 {d : Nat} {r s : Res} (W : Pcs ρ0 ρ (c :: d :: ns) (r :: s :: rs)) (hd : ρ0 d = none) : Pcs ρ0 ρ (c :: ns) (r :: rs) := by
  refine ⟨?_, by have := W.len; simp at this ⊢; omega, fun i e t he ht => ?_, fun e t he ht => W.fra e t (fun hm => ?_) ht⟩
  · have := W.nodup
    simp only [List.nodup_cons, List.mem_cons, not_or] at this ⊢
    exact ⟨this.1.2, this.2.2⟩
  · cases i with
    | zero => exact W.at_ 0 e t (by simpa using he) (by simpa using ht)
    | succ i => exact W.at_ (i + 2) e t (by simpa using he) (by simpa using ht)
  · simp only [List.mem_cons, not_or] at hm he
    rcases hm with x | x | x
    · exact he.1 x
    · subst x; rw [hd] at ht; cases ht
    · exact he.2 x
/-- A part of a slice. -/
def SubOf (a0 : Option Addr) (l0 : List Value) (a : Option Addr) (l : List Value) : Prop := ∃ k n, shO a0 k = some a ∧ l = (l0.drop k).take n
theorem SubOf.self {a : Option Addr} {l : List Value} (h : ∀ b, a = some b → b.spot = none) : SubOf a l a l := by
  refine ⟨0, l.length, ?_, by simp⟩
  cases a with
  | none => rfl
  | some b =>
    obtain ⟨i, off, s⟩ := b
    have := h _ rfl
    simp only at this
    subst this; rfl
theorem Sl.sub {a0 a : Option Addr} {l0 l : List Value} (X : Sl h a0 l0) (S : SubOf a0 l0 a l) : Sl h a l := by
  obtain ⟨k, n, e, rfl⟩ := S
  rcases X with ⟨rfl, rfl⟩ | ⟨i, off, rfl, hr⟩
  · simp only [shO, Option.some.injEq] at e; subst e
    exact .inl ⟨rfl, by simp⟩
  · simp only [shO, Option.some.injEq] at e; subst e
    refine .inr ⟨i, off + k, rfl, fun j hj => ?_⟩
    simp only [List.length_take, List.length_drop] at hj
    rw [List.getElem?_take_of_lt (by omega), List.getElem?_drop, Nat.add_assoc]
    exact hr _ (by omega)
/-- A slice that may be read, whatever becomes of the names ns. -/
def Rd (ρ : Store) (ns : List Nat) (a : Option Addr) (l : List Value) : Prop :=
  ∃ c, c ∉ ns ∧ ∃ r, ρ c = some r ∧ ∃ a0 l0, SubOf a0 l0 a l ∧ ((∃ cap sz, r = .sl a0 cap sz l0) ∨ (∃ vs, r = .ro vs ∧ (a0, l0) ∈ vs) ∨ (∃ vs cap sz, r = .many vs ∧ (a0, cap, sz, l0) ∈ vs))
theorem Own.spot (O : Own h μ ρ) {a : Option Addr} {cap sz : Nat} {l : List Value} (hc : ρ c = some (.sl a cap sz l)) : ∀ b, a = some b → b.spot = none := by
  have M : OM h μ c a cap sz l := O.holds _ _ hc
  rintro b rfl
  rcases M.mem with ⟨e, _⟩ | ⟨i, off, e, _⟩
  · cases e
  · cases e; rfl
theorem Rd.of_sl (O : Own h μ ρ) {a : Option Addr} {cap sz : Nat} {l : List Value} (hn : c ∉ ns) (hc : ρ c = some (.sl a cap sz l)) : Rd ρ ns a l :=
  ⟨c, hn, _, hc, a, l, SubOf.self (O.spot hc), .inl ⟨cap, sz, rfl⟩⟩
theorem Rd.of_ro {a0 a : Option Addr} {l0 l : List Value} {vs : List (Option Addr × List Value)} (hn : c ∉ ns) (hc : ρ c = some (.ro vs)) (hm : (a0, l0) ∈ vs) (S : SubOf a0 l0 a l) : Rd ρ ns a l :=
  ⟨c, hn, _, hc, a0, l0, S, .inr (.inl ⟨vs, rfl, hm⟩)⟩
theorem Rd.sl {a : Option Addr} {l : List Value} (R : Rd ρ ns a l) (O : Own h μ ρ) : Sl h a l := by
  obtain ⟨c, _, r, hc, a0, l0, S, ⟨cap, sz, rfl⟩ | ⟨vs, rfl, hm⟩ | ⟨vs, cap, sz, rfl, hm⟩⟩ := R
  · exact (O.sl hc).sub S
  · exact (O.ro hc hm).sub S
  · have M : OM _ _ c a0 cap sz l0 := (O.holds _ _ hc).1 _ _ _ _ hm
    exact M.sl.sub S
theorem Rd.of_many (O : Own h μ ρ) {a : Option Addr} {cap sz : Nat} {l : List Value} {vs : List (Option Addr × Nat × Nat × List Value)} (hn : c ∉ ns) (hc : ρ c = some (.many vs)) (hm : (a, cap, sz, l) ∈ vs) : Rd ρ ns a l := by
  have M : OM h μ c a cap sz l := (O.holds _ _ hc).1 _ _ _ _ hm
  refine ⟨c, hn, _, hc, a, l, SubOf.self ?_, .inr (.inr ⟨vs, cap, sz, rfl, hm⟩)⟩
  rintro b rfl
  rcases M.mem with ⟨e, _⟩ | ⟨i, off, e, _⟩
  · cases e
  · cases e; rfl
theorem Rd.keep {a : Option Addr} {l : List Value} (R : Rd ρ ns a l) (F : Fra ns ρ ρ') : Rd ρ' ns a l := by
  obtain ⟨c, hn, r, hc, rest⟩ := R
  exact ⟨c, hn, r, F c _ hn hc, rest⟩
theorem Rd.add {a : Option Addr} {l : List Value} (R : Rd ρ ns a l) (hc : ρ c = none) : Rd ρ (c :: ns) a l := by
  obtain ⟨d, hn, r, hd, rest⟩ := R
  refine ⟨d, fun hm => ?_, r, hd, rest⟩
  rcases List.mem_cons.1 hm with x | x
  · subst x; rw [hc] at hd; cases hd
  · exact hn x
theorem Rd.fresh {a : Option Addr} {l : List Value} (R : Rd ρ [] a l) (F : Fra [] ρ ρ') (hf : ∀ c, c ∈ ns → ρ c = none) : Rd ρ' ns a l := by
  obtain ⟨d, hn, r, hd, rest⟩ := R
  exact ⟨d, fun hm => (by rw [hf d hm] at hd; cases hd), r, F d r hn hd, rest⟩
theorem Rd.mono {ms : List Nat} {a : Option Addr} {l : List Value} (R : Rd ρ ns a l) (h : ∀ c, c ∈ ms → c ∈ ns) : Rd ρ ms a l := by
  obtain ⟨c, hn, x⟩ := R
  exact ⟨c, fun y => hn (h c y), x⟩
/-! Steps. -/
theorem w_rd (O : Own h μ ρ) (W : Pcs ρ0 ρ ns rs) (i : Nat) {p j : Nat} {l : List Value} {v : Value} {f : Value → Prop} (hr : rs[i]? = some (.var p l)) (hv : l[j]? = some v) (H : f v) : oB (h.rd p j) f := by
  obtain ⟨c, _, hc⟩ := W.get i hr
  exact o_rd O hc hv H
theorem w_wr (O : Own h μ ρ) (W : Pcs ρ0 ρ ns rs) (i : Nat) {p j : Nat} {l : List Value} {v : Value} {f : AW → Prop} (hr : rs[i]? = some (.var p l)) (hj : j < l.length) (h1 : oneCell v = true)
    (H : ∀ h' ρ', Own h' μ ρ' → Pcs ρ0 ρ' ns (rs.set i (.var p (l.set j v))) → f h') : oB (h.wr p j v) f := by
  obtain ⟨c, hn, hc⟩ := W.get i hr
  exact o_wr O hc hj h1 fun h' O' => H h' _ O' (W.set i hn _)
theorem w_wrL (O : Own h μ ρ) (W : Pcs ρ0 ρ ns rs) (i : Nat) {p j : Nat} {l vs : List Value} {f : AW → Prop} (hr : rs[i]? = some (.var p l)) (hj : j + vs.length ≤ l.length) (h1 : allOne vs = true)
    (H : ∀ h' ρ', Own h' μ ρ' → Pcs ρ0 ρ' ns (rs.set i (.var p (setAll l j vs))) → f h') : oB (h.wrL p j vs) f := by
  obtain ⟨c, hn, hc⟩ := W.get i hr
  exact o_wrL vs O hc hj h1 fun h' O' => H h' _ O' (W.set i hn _)
/-- A new block. -/
theorem w_new (O : Own h μ ρ) (W : Pcs ρ0 ρ ns rs) (l : List Value) : ∃ μ' ρ' c, Own (h.addVar l) μ' ρ' ∧ Pcs ρ0 ρ' (c :: ns) (.var h.next l :: rs) ∧ ρ0 c = none := by
  obtain ⟨c, hc⟩ := O.fresh
  exact ⟨_, _, c, o_addVar O c, W.new hc _, W.not0 hc⟩
/-- A new block that is a slice. -/
theorem w_block (O : Own h μ ρ) (W : Pcs ρ0 ρ ns rs) (l : List Value) {n sz : Nat} (hl : l.length = n * sz) (ha : allOne l = true) : ∃ μ' ρ' c, Own (h.addVar l) μ' ρ' ∧ Pcs ρ0 ρ' (c :: ns) (.sl (some ⟨h.next, 0, none⟩) n sz l :: rs) ∧ ρ0 c = none := by
  obtain ⟨c, hc⟩ := O.fresh
  exact ⟨_, _, c, o_block O c hl ha, W.new hc _, W.not0 hc⟩
/-- A slice of nothing. -/
theorem w_nil (O : Own h μ ρ) (W : Pcs ρ0 ρ ns rs) (sz : Nat) : ∃ ρ' c, Own h μ ρ' ∧ Pcs ρ0 ρ' (c :: ns) (.sl none 0 sz [] :: rs) ∧ ρ0 c = none := by
  obtain ⟨c, hc⟩ := O.fresh
  exact ⟨_, c, O.step (r := .sl none 0 sz []) Chg.refl (OM.nil (sz := sz)), W.new hc _, W.not0 hc⟩
theorem w_cap (O : Own h μ ρ) (W : Pcs ρ0 ρ ns rs) (i : Nat) {a : Option Addr} {cap sz : Nat} {l : List Value} (hr : rs[i]? = some (.sl a cap sz l)) : l.length ≤ cap * sz := by
  obtain ⟨c, _, hc⟩ := W.get i hr
  have M : OM h μ c a cap sz l := O.holds _ _ hc
  exact M.le
theorem w_sl (O : Own h μ ρ) (W : Pcs ρ0 ρ ns rs) (i : Nat) {a : Option Addr} {cap sz : Nat} {l : List Value} (hr : rs[i]? = some (.sl a cap sz l)) : Sl h a l := by
  obtain ⟨c, _, hc⟩ := W.get i hr
  exact O.sl hc
theorem w_i1_wr (O : Own h μ ρ) (W : Pcs ρ0 ρ ns rs) (i : Nat) {a : Option Addr} {cap : Nat} {l : List Value} (hr : rs[i]? = some (.sl a cap 1 l)) {z : Int} {j n : Nat} {v : Value} (hz : z = j) (hn : n = l.length) (hj : j < l.length) (h1 : oneCell v = true) {f : AW → Prop}
    (H : ∀ h' ρ', Own h' μ ρ' → Pcs ρ0 ρ' ns (rs.set i (.sl a cap 1 (l.set j v))) → f h') : aP a fun i off => oB (natIdx z n) fun j => oB (h.wr i (off + j * 1) v) f := by
  obtain ⟨c, hn', hc⟩ := W.get i hr
  exact o_i1_wr O hc hz hn hj h1 fun h' O' => H h' _ O' (W.set i hn' _)
theorem w_app (O : Own h μ ρ) (W : Pcs ρ0 ρ ns rs) (i : Nat) {ty e : TypeId} {u : TypeDesc} {g ag : Bool} {sz bt s1 b1 : Nat} {z1 : Option Value} {z : Value} (h1 : tiOf P ty = some ⟨.slice e, ag, s1, b1, z1⟩) (h2 : tiOf P e = some ⟨u, g, sz, bt, some z⟩) (hs : 0 < sz)
    {a : Option Addr} {cap : Nat} {l : List Value} (hr : rs[i]? = some (.sl a cap sz l)) {n m k : Nat} (hl : l.length = n * sz) {b : Option Addr} {new : List Value} (X : Sl h b new) (hn : new.length = m * sz) (ha : allOne new = true)
    (r1 : (n + m) * bt ≤ 70368744177664) (r2 : n + m ≤ 4611686018427387904) {f : Value → AW → Prop}
    (H : ∀ a' cap' h' μ' ρ', Own h' μ' ρ' → Pcs ρ0 ρ' ns (rs.set i (.sl a' cap' sz (l ++ new))) → f (.slice a' (n + m) cap') h') : oP (appendB P h ⟨[ty, ty]⟩ [.slice a n cap, .slice b m k]) f := by
  obtain ⟨c, hn', hc⟩ := W.get i hr
  exact o_app (te := ⟨u, g, sz, bt, some z⟩) O h1 h2 rfl hs hc hl X hn ha r1 r2 fun a' cap' h' μ' O' => H a' cap' h' μ' _ O' (W.set i hn' _)
/-- The first elements. -/
theorem w_take (O : Own h μ ρ) (W : Pcs ρ0 ρ ns rs) (i : Nat) {a : Option Addr} {cap sz : Nat} {l : List Value} (hr : rs[i]? = some (.sl a cap sz l)) (k : Nat) : ∃ ρ', Own h μ ρ' ∧ Pcs ρ0 ρ' ns (rs.set i (.sl a cap sz (l.take k))) := by
  obtain ⟨c, hn', hc⟩ := W.get i hr
  have M : OM h μ c a cap sz l := O.holds _ _ hc
  exact ⟨_, O.step (r := .sl a cap sz (l.take k)) Chg.refl (M.take k), W.set i hn' _⟩
/-- A new row of zeros. -/
theorem o_blockT (O : Own h μ ρ) (c : Nat) {l : List Value} {n sz : Nat} (hl : l.length = n * sz) (ha : allOne l = true) (t : TypeId) : Own ((h.addVar l).tag h.next t) (mkNew μ h.next c) (ρ.upd c (.sl (some ⟨h.next, 0, none⟩) n sz l)) :=
  O.step (r := .sl (some ⟨h.next, 0, none⟩) n sz l) (Chg.tag addVar_chg (Nat.le_refl _)) (OM.tag (OM.block hl ha))
theorem make_eq {t e : TypeId} {u : TypeDesc} {g ag : Bool} {sz bt s1 b1 : Nat} {z1 : Option Value} {z : Value} (h1 : tiOf P t = some ⟨.slice e, ag, s1, b1, z1⟩) (h2 : tiOf P e = some ⟨u, g, sz, bt, some z⟩) (n : Nat)
    (hz : z.cells.toList.length = sz) (hza : allOne (rep z.cells.toList n) = true) (hb : n * bt ≤ 140737488355328) (hn : n ≤ 9223372036854775807) : makeSliceV P h t (.int .i64 (n : Int)) (.int .i64 (n : Int)) = some (.slice (some ⟨h.next, 0, none⟩) n n, (h.addVar (rep z.cells.toList n)).tag h.next e) := by
  unfold makeSliceV
  rw [h1, show ((n : Nat) : Int) = Int.ofNat n from rfl]; simp only
  rw [h2]; simp only
  rw [Nat.ble_eq_true_of_le (Nat.le_refl n), Nat.ble_eq_true_of_le hb, Nat.ble_eq_true_of_le hn]
  simp only [Bool.and_self]
  rw [show Nat.beq z.cells.size sz = true from by rw [← hz, ← Array.length_toList, Nat.beq_refl]]
  simp only
  unfold AW.newVar
  rw [hza]
  rfl
/-- .. and of which type its elements are. -/
theorem w_makeT (O : Own h μ ρ) (W : Pcs ρ0 ρ ns rs) {t e : TypeId} {u : TypeDesc} {g ag : Bool} {sz bt s1 b1 : Nat} {z1 : Option Value} {z : Value} (h1 : tiOf P t = some ⟨.slice e, ag, s1, b1, z1⟩) (h2 : tiOf P e = some ⟨u, g, sz, bt, some z⟩) (n : Nat)
    (hz : z.cells.toList.length = sz) (hza : allOne (rep z.cells.toList n) = true) (hb : n * bt ≤ 140737488355328) (hn : n ≤ 9223372036854775807) {f : Value → AW → Prop}
    (H : ∀ h' μ' ρ' c d i, Own h' μ' ρ' → Pcs ρ0 ρ' (c :: d :: ns) (.sl (some ⟨i, 0, none⟩) n sz (rep z.cells.toList n) :: .ty i e :: rs) → ρ0 c = none → ρ0 d = none → f (.slice (some ⟨i, 0, none⟩) n n) h') : oP (makeSliceV P h t (.int .i64 (n : Int)) (.int .i64 (n : Int))) f := by
  obtain ⟨c, hc⟩ := O.fresh
  rw [make_eq h1 h2 n hz hza hb hn]
  have O1 := o_blockT O c (l := rep z.cells.toList n) (n := n) (sz := sz) (by rw [rep_length, hz]) hza e
  have W1 := W.new hc (.sl (some ⟨h.next, 0, none⟩) n sz (rep z.cells.toList n))
  obtain ⟨d, hd⟩ := O1.fresh
  have O2 := O1.step (c := d) (r := .ty h.next e) Chg.refl ⟨Nat.lt_succ_self _, T.get?_set_same _ _ _⟩
  have W2 := W1.new hd (.ty h.next e)
  have hd0 := W1.not0 hd
  refine H _ _ _ c d h.next O2 ?_ (W.not0 hc) hd0
  have hn := W2.nodup
  simp only [List.nodup_cons, List.mem_cons, not_or] at hn
  refine ⟨?_, by have := W2.len; simpa using this, fun i e' t' he ht => ?_, fun e' t' he ht => W2.fra e' t' (fun hm => he ?_) ht⟩
  · simp only [List.nodup_cons, List.mem_cons, not_or]
    exact ⟨⟨fun e => hn.1.1 e.symm, hn.2.1⟩, hn.1.2, hn.2.2⟩
  · match i, he, ht with
    | 0, he, ht => exact W2.at_ 1 e' t' (by simpa using he) (by simpa using ht)
    | 1, he, ht => exact W2.at_ 0 e' t' (by simpa using he) (by simpa using ht)
    | i + 2, he, ht => exact W2.at_ (i + 2) e' t' (by simpa using he) (by simpa using ht)
  · simp only [List.mem_cons] at hm ⊢
    rcases hm with x | x | x
    · exact .inr (.inl x)
    · exact .inl x
    · exact .inr (.inr x)
theorem bytesV_of : ∀ bs : List UInt8, bytesV (bs.map fun b => Value.int .u8 (b.toNat : Int)) = some bs
  | [] => rfl
  | b :: l => by
    rw [List.map_cons]
    unfold bytesV
    rw [bytesV_of l]
    simp
/-- What is forgotten was one's own. -/
theorem forget_ok {i cap sz : Nat} {l : List Value} (M : OM h μ c (some ⟨i, 0, none⟩) cap sz l) (hc : 0 < cap) : ∃ h', h.forget i = some h' ∧ Chg (· = c) h μ h' μ := by
  rcases M.mem with ⟨e, _⟩ | ⟨i', off, e, hi, hm, r, kk⟩
  · cases e
  cases e
  rcases kk with ⟨t, n, ro, ho, hb, hro⟩ | ⟨f, g, lo, hi', t, ext, frz, ho, hf, hfn, hfm, h5, h6, h7⟩
  · have hro : ro = false := by
      cases ro with
      | false => rfl
      | true => have := hro rfl; omega
    subst hro
    refine ⟨{ h with objs := h.objs.set i (.var .nil 0 false) }, by unfold AW.forget; rw [ho], Nat.le_refl _, fun _ _ => rfl, fun k hk hn => T.get?_set_ne _ _ (fun e => hn (by rw [e, hm])), fun _ _ _ => rfl, fun _ _ => rfl⟩
  · refine ⟨{ h with fams := h.fams.set f ⟨g + 1, ext, frz⟩ }, by unfold AW.forget; rw [ho]; simp only; rw [hf]; simp only; rw [Nat.beq_refl], Nat.le_refl _, fun _ _ => rfl, fun _ _ _ => rfl, fun k hk hn => T.get?_set_ne _ _ (fun e => hn (by rw [e, hfm])), fun _ _ => rfl⟩
/-- unsafe.String of bytes that are one's own: they are given away. -/
theorem w_ustr (O : Own h μ ρ) {d i0 cap : Nat} {l : List Value} {e : TypeId} (W : Pcs ρ0 ρ (c :: d :: ns) (.sl (some ⟨i0, 0, none⟩) cap 1 l :: .ty i0 e :: rs)) (hc0 : ρ0 c = none) (hd0 : ρ0 d = none) {pt it : TypeId} {ag : Bool} {s1 b1 : Nat} {z1 : Option Value} {te : TI} (h1 : tiOf P pt = some ⟨.pointer e, ag, s1, b1, z1⟩) (h2 : tiOf P e = some te) (hs : te.size = 1)
    {bs : List UInt8} (hl : l = bs.map fun b => Value.int .u8 (b.toNat : Int)) (hb0 : bs ≠ []) (hb : bs.length ≤ 9223372036854775807) {f : Value → AW → Prop}
    (H : ∀ h' ρ', Own h' μ ρ' → Pcs ρ0 ρ' ns rs → f (.string ⟨⟨bs⟩⟩) h') : oP (ustrB P h ⟨[pt, it]⟩ [.pointer (some ⟨i0, 0, none⟩), .int .i64 (bs.length : Int)]) f := by
  have hc : ρ c = some (.sl (some ⟨i0, 0, none⟩) cap 1 l) := W.at_ 0 _ _ rfl rfl
  have hd : ρ d = some (.ty i0 e) := W.at_ 1 _ _ rfl rfl
  have M : OM h μ c (some ⟨i0, 0, none⟩) cap 1 l := O.holds _ _ hc
  obtain ⟨hlt, hty⟩ := O.holds _ _ hd
  have hlen : l.length = bs.length := by rw [hl]; simp
  have hpos : 0 < bs.length := List.length_pos_iff.2 hb0
  have hcap : 0 < cap := by have := M.le; omega
  obtain ⟨h', ef, C⟩ := forget_ok M hcap
  have hr := M.rdN hlen
  have : ustrB P h ⟨[pt, it]⟩ [.pointer (some ⟨i0, 0, none⟩), .int .i64 (bs.length : Int)] = some (.string ⟨⟨bs⟩⟩, h') := by
    unfold ustrB
    rw [show ((bs.length : Nat) : Int) = Int.ofNat bs.length from rfl]
    simp only
    rw [show Nat.beq bs.length 0 = false from by
      rw [← Bool.not_eq_true, Nat.beq_eq]; omega, Nat.ble_eq_true_of_le hb]
    simp only
    rw [Nat.beq_refl, h1, hty]
    simp only
    rw [Nat.beq_refl, h2]
    simp only
    rw [hs, Nat.beq_refl, hr]
    simp only
    rw [hl, bytesV_of, ef]
  rw [this]
  have O' := O.step (c := c) (r := .many []) C ⟨fun a cap sz l hm => by simp at hm, Sep.nil⟩
  have W' := W.set 0 (c := c) rfl (.many [])
  exact H _ _ O' ((W'.tail hc0).tail hd0)
theorem setAll_lt : ∀ (vs l : List Value) (j k : Nat), k < j → (setAll l j vs)[k]? = l[k]?
  | [], l, j, k, _ => rfl
  | v :: vs, l, j, k, hk => by rw [setAll, setAll_lt vs _ _ _ (by omega), List.getElem?_set_ne (by omega)]
theorem setAll_take (vs l : List Value) (j : Nat) : (setAll l j vs).take j = l.take j := by
  apply List.ext_getElem?
  intro k
  rw [List.getElem?_take, List.getElem?_take]
  split
  · rename_i hk; exact setAll_lt vs l j k hk
  · rfl
theorem o_sl_wrL {b off cap sz : Nat} : ∀ (vs : List Value) {h : AW} {ρ : Store} {rs : List Res} (i : Nat) {l : List Value} (j : Nat), Own h μ ρ → Pcs ρ0 ρ ns rs → rs[i]? = some (.sl (some ⟨b, off, none⟩) cap sz l) → j + vs.length ≤ l.length → allOne vs = true →
    ∃ h' ρ', h.wrL b (off + j) vs = some h' ∧ Own h' μ ρ' ∧ Pcs ρ0 ρ' ns (rs.set i (.sl (some ⟨b, off, none⟩) cap sz (setAll l j vs)))
  | [], h, ρ, rs, i, l, j, O, W, hr, _, _ => by
    refine ⟨h, ρ, rfl, O, W.eq ?_⟩
    obtain ⟨hi, e⟩ := List.getElem?_eq_some_iff.1 hr
    rw [setAll, ← e]; simp
  | v :: vs, h, ρ, rs, i, l, j, O, W, hr, hj, ha => by
    simp only [allOne] at ha
    split at ha
    · rename_i h1
      simp only [List.length_cons] at hj
      obtain ⟨c, hn, hc⟩ := W.get i hr
      have M : OM h μ c _ cap sz l := O.holds _ _ hc
      obtain ⟨h2, e, M', C, n⟩ := M.wr (j := j) (Nat.lt_of_lt_of_le (by omega) M.le) (by omega) h1
      rw [if_pos (by omega)] at M'
      have O2 := O.step (r := .sl (some ⟨b, off, none⟩) cap sz (l.set j v)) C M'
      have hi := (List.getElem?_eq_some_iff.1 hr).1
      obtain ⟨h3, ρ3, e3, O3, W3⟩ := o_sl_wrL (b := b) (off := off) (cap := cap) (sz := sz) vs i (l := l.set j v) (j + 1) O2 (W.set i hn _) (by simp [hi]) (by rw [List.length_set]; omega) ha
      refine ⟨h3, ρ3, ?_, O3, W3.eq (by rw [List.set_set]; rfl)⟩
      simp only [AW.wrL, e]
      rw [← e3, Nat.add_assoc]
    · cases ha
/-- clear, from an element on. -/
theorem w_clear (O : Own h μ ρ) (W : Pcs ρ0 ρ ns rs) (i : Nat) {ty e : TypeId} {u : TypeDesc} {g ag : Bool} {sz bt s1 b1 : Nat} {z1 : Option Value} {z : Value} (h1 : tiOf P ty = some ⟨.slice e, ag, s1, b1, z1⟩) (h2 : tiOf P e = some ⟨u, g, sz, bt, some z⟩)
    {b off cap k n kk : Nat} {l : List Value} (hr : rs[i]? = some (.sl (some ⟨b, off, none⟩) cap sz l)) (hz : z.cells.toList.length = sz) (hl : k * sz + n * sz ≤ l.length) (hza : allOne (rep z.cells.toList n) = true) {f : Value → AW → Prop}
    (H : ∀ h' ρ', Own h' μ ρ' → Pcs ρ0 ρ' ns (rs.set i (.sl (some ⟨b, off, none⟩) cap sz (setAll l (k * sz) (rep z.cells.toList n)))) → f (.tuple #[]) h') : oP (clearB P h ⟨[ty]⟩ [.slice (some ⟨b, off + k * sz, none⟩) n kk]) f := by
  obtain ⟨h', ρ', e, O', W'⟩ := o_sl_wrL (rep z.cells.toList n) i (k * sz) O W hr (by rw [rep_length, hz]; exact hl) hza
  unfold clearB
  simp only
  rw [h1]; simp only
  rw [h2]; simp only
  rw [e]
  exact H h' ρ' O' W'
theorem rep_one (v : Value) : ∀ n, rep [v] n = List.replicate n v
  | 0 => rfl
  | n + 1 => by rw [rep, rep_one v n, List.replicate_succ]; rfl
/-- The same under other marks. -/
theorem OM.repaint {c d : Nat} {a : Option Addr} {cap sz : Nat} {l : List Value} (hm : ∀ i, i < h.next → μ i = c → μ' i = d) (H : OM h μ c a cap sz l) : OM h μ' d a cap sz l := by
  refine (⟨H.le, H.one, ?_⟩ : OM h μ' d a cap sz l)
  rcases H.mem with x | ⟨i, off, e, hi, hc, r, k⟩
  · exact .inl x
  · refine .inr ⟨i, off, e, hi, hm i hi hc, r, ?_⟩
    rcases k with x | ⟨f, g, lo, hi', t, ext, frz, h1, h2, h3, h4, h5⟩
    · exact .inl x
    · exact .inr ⟨f, g, lo, hi', t, ext, frz, h1, h2, h3, hm f h3 h4, h5⟩
theorem Res.Holds.repaint {c d : Nat} {r : Res} (hm : ∀ i, i < h.next → μ i = c → μ' i = d) (H : r.Holds h μ c) : r.Holds h μ' d := by
  cases r with
  | var i l =>
    obtain ⟨a, b, V⟩ := H
    exact ⟨a, hm i a b, V⟩
  | sl a cap sz l => exact OM.repaint hm H
  | map i es =>
    obtain ⟨a, b, V⟩ := H
    exact ⟨a, hm i a b, V⟩
  | ro vs =>
    intro a l hv
    rcases H a l hv with x | ⟨i, off, e, h1, h2, h3, r⟩
    · exact .inl x
    · exact .inr ⟨i, off, e, h1, hm i h1 h2, fun f g lo hi z t hr => ⟨(h3 f g lo hi z t hr).1, hm f (h3 f g lo hi z t hr).1 (h3 f g lo hi z t hr).2⟩, r⟩
  | many vs => exact ⟨fun a cap sz l hv => (H.1 a cap sz l hv).repaint hm, H.2⟩
  | bag vs => exact ⟨fun a cap sz n hv => let ⟨l, h1, h2⟩ := H.1 a cap sz n hv; ⟨l, h1, h2.repaint hm⟩, H.2⟩
  | ty i t => exact H
/-- Two pieces under one name. -/
theorem w_join (O : Own h μ ρ) {r r2 r3 : Res} (W : Pcs ρ0 ρ (c :: ns) (r :: rs)) (h0 : ρ0 c = none) (i : Nat) (hi : rs[i]? = some r2) (hj : ∀ (μ μ' : Paint) c d, c ≠ d → r.Holds h μ c → r2.Holds h μ d → r.Holds h μ' d → r2.Holds h μ' d → r3.Holds h μ' d) : ∃ μ' ρ', Own h μ' ρ' ∧ Pcs ρ0 ρ' ns (rs.set i r3) := by
  have hil : i < rs.length := (List.getElem?_eq_some_iff.1 hi).1
  have hin : i < ns.length := by have := W.len; simp at this; omega
  have hd : ns[i]? = some ns[i] := List.getElem?_eq_getElem hin
  generalize ns[i] = d at hd
  have hcn : c ∉ ns := (List.nodup_cons.1 W.nodup).1
  have hdc : d ≠ c := fun e => hcn (by rw [← e]; exact List.mem_of_getElem? hd)
  have hc : ρ c = some r := W.at_ 0 c r rfl rfl
  have hd2 : ρ d = some r2 := W.at_ (i + 1) d r2 (by simpa using hd) (by simpa using hi)
  let ρ1 : Store := fun x => if x = d then some r3 else if x = c then none else ρ x
  let μ1 : Paint := fun x => if μ x = c then d else μ x
  have O1 : Own h μ1 ρ1 := by
    refine ⟨?_, fun e r' he => ?_⟩
    · obtain ⟨N, hN⟩ := O.fin
      refine ⟨Nat.max N (d + 1), fun e he => ?_⟩
      have h1 : N ≤ e := Nat.le_trans (Nat.le_max_left _ _) he
      have h2 : d + 1 ≤ e := Nat.le_trans (Nat.le_max_right _ _) he
      show (if e = d then some r3 else if e = c then none else ρ e) = none
      rw [if_neg (by omega)]
      split
      · rfl
      · exact hN e h1
    · have he2 : (if e = d then some r3 else if e = c then none else ρ e) = some r' := he
      clear he
      by_cases ed : e = d
      · rw [if_pos ed] at he2
        cases he2
        rw [ed]
        exact hj μ μ1 c d (fun e => hdc e.symm) (O.holds c r hc) (O.holds d r2 hd2) ((O.holds c r hc).repaint fun j _ hj => by simp [μ1, hj]) ((O.holds d r2 hd2).repaint fun j _ hj => by simp [μ1, hj, hdc])
      · rw [if_neg ed] at he2
        by_cases ec : e = c
        · rw [if_pos ec] at he2; cases he2
        · rw [if_neg ec] at he2
          exact (O.holds e r' he2).repaint fun j _ hj => by simp [μ1, hj, ec]
  refine ⟨μ1, ρ1, O1, (List.nodup_cons.1 W.nodup).2, by have := W.len; simp at this ⊢; omega, fun j e r' hj hr => ?_, fun e r' hn he => ?_⟩
  · rw [List.getElem?_set] at hr
    have hje := (List.getElem?_eq_some_iff.1 hj)
    have hie := (List.getElem?_eq_some_iff.1 hd)
    show (if e = d then some r3 else if e = c then none else ρ e) = some r'
    by_cases x : i = j
    · subst x
      rw [if_pos rfl, if_pos hil] at hr; cases hr
      rw [hd] at hj; cases hj
      rw [if_pos rfl]
    · rw [if_neg x] at hr
      have : e ≠ d := fun y => x (by
        have := (List.getElem_inj (h₀ := hje.1) (h₁ := hie.1) (List.nodup_cons.1 W.nodup).2).1 (by rw [hje.2, hie.2, y])
        exact this.symm)
      rw [if_neg this, if_neg (fun y => hcn (by rw [← y]; exact List.mem_of_getElem? hj))]
      exact W.at_ (j + 1) e r' (by simpa using hj) (by simpa using hr)
  · show (if e = d then some r3 else if e = c then none else ρ e) = some r'
    rw [if_neg (fun y => hn (by rw [y]; exact List.mem_of_getElem? hd)), if_neg (fun y => by rw [y, h0] at he; cases he)]
    exact W.fra e r' (fun y => by
      rcases List.mem_cons.1 y with z | z
      · rw [z, h0] at he; cases he
      · exact hn z) he
/-- No slices as yet. -/
theorem w_many (O : Own h μ ρ) (W : Pcs ρ0 ρ ns rs) : ∃ ρ' c, Own h μ ρ' ∧ Pcs ρ0 ρ' (c :: ns) (.many [] :: rs) ∧ ρ0 c = none := by
  obtain ⟨c, hc⟩ := O.fresh
  exact ⟨_, c, O.step (r := .many []) Chg.refl ⟨fun a cap sz l hm => by simp at hm, Sep.nil⟩, W.new hc _, W.not0 hc⟩
/-- A slice joins the others. -/
theorem w_into (O : Own h μ ρ) {a : Option Addr} {cap sz : Nat} {l : List Value} {vs : List (Option Addr × Nat × Nat × List Value)} (W : Pcs ρ0 ρ (c :: ns) (.sl a cap sz l :: rs)) (h0 : ρ0 c = none) (i : Nat) (hi : rs[i]? = some (.many vs)) :
    ∃ μ' ρ', Own h μ' ρ' ∧ Pcs ρ0 ρ' ns (rs.set i (.many ((a, cap, sz, l) :: vs))) :=
  w_join O W h0 i hi fun μ μ' c d hcd g1 g2 h1 h2 => ⟨fun a' cap' sz' l' hm => by
    rcases List.mem_cons.1 hm with e | hm
    · cases e; exact h1
    · exact h2.1 _ _ _ _ hm, by
    rw [List.map_cons, ← List.singleton_append]
    refine Sep.app hcd (fun i o f hm hf => ?_) (many_fam g2.1) Sep.one g2.2
    simp only [List.mem_singleton] at hm
    subst hm
    exact OM.fam g1 hf⟩
/-- From an element on. -/
theorem Sl.from {a : Option Addr} {l : List Value} (X : Sl h a l) (k : Nat) {f : Option Addr → Prop} (H : ∀ a', Sl h a' (l.drop k) → f a') : oB (shO a k) f := by
  rcases X with ⟨rfl, rfl⟩ | ⟨i, off, rfl, hr⟩
  · exact H none (.inl ⟨rfl, by simp⟩)
  · refine H _ (.inr ⟨i, off + k, rfl, fun j hj => ?_⟩)
    rw [List.length_drop] at hj
    rw [List.getElem?_drop, show off + k + j = off + (k + j) from by omega]
    exact hr _ (by omega)
theorem Sl.take {a : Option Addr} {l : List Value} (X : Sl h a l) (k : Nat) : Sl h a (l.take k) := by
  rcases X with ⟨rfl, rfl⟩ | ⟨i, off, rfl, hr⟩
  · exact .inl ⟨rfl, by simp⟩
  · refine .inr ⟨i, off, rfl, fun j hj => ?_⟩
    rw [List.length_take] at hj
    rw [hr j (by omega), List.getElem?_take_of_lt (by omega)]
end Go.Abs
end

section
/- Statements with bodies, as lists of lists: no Go in it; and how they lie in memory. -/
namespace Go.Abs.Fo
open Go.Abs

/-- A list of statements: each has a kind, words, a number and a body. -/
inductive F where
  | nil
  | cons (op : Int) (args : List Str) (n : Int) (body rest : F)
namespace F
def len : F → Nat
  | nil => 0
  | cons _ _ _ _ r => r.len + 1
def app : F → F → F
  | nil, g => g
  | cons o a n b r, g => cons o a n b (r.app g)
def eqB : F → F → Bool
  | nil, nil => true
  | cons o a n b r, cons o' a' n' b' r' => decide (o = o') && decide (n = n') && decide (a = a') && eqB b b' && eqB r r'
  | _, _ => false
theorem eqB_iff : ∀ {f g : F}, eqB f g = true ↔ f = g
  | nil, nil => by simp [eqB]
  | nil, cons .. => by simp [eqB]
  | cons .., nil => by simp [eqB]
  | cons o a n b r, cons o' a' n' b' r' => by
    simp only [eqB, Bool.and_eq_true, decide_eq_true_eq, eqB_iff (f := b) (g := b'), eqB_iff (f := r) (g := r'), cons.injEq]
    constructor
    · rintro ⟨⟨⟨⟨rfl, rfl⟩, rfl⟩, rfl⟩, rfl⟩; exact ⟨rfl, rfl, rfl, rfl, rfl⟩
    · rintro ⟨rfl, rfl, rfl, rfl, rfl⟩; exact ⟨⟨⟨⟨rfl, rfl⟩, rfl⟩, rfl⟩, rfl⟩
theorem eqB_self (f : F) : eqB f f = true := eqB_iff.2 rfl
theorem app_len : ∀ (f g : F), (f.app g).len = f.len + g.len
  | nil, g => by simp [app, len]
  | cons _ _ _ _ r, g => by simp only [app, len, app_len r g]; omega
theorem app_nil : ∀ f : F, f.app nil = f
  | nil => rfl
  | cons o a n b r => by rw [app, app_nil r]
theorem app_assoc : ∀ f g k : F, (f.app g).app k = f.app (g.app k)
  | nil, _, _ => rfl
  | cons o a n b r, g, k => by rw [app, app, app, app_assoc r]
theorem eqB_len : ∀ {f g : F}, f.len ≠ g.len → eqB f g = false
  | nil, nil, h => absurd rfl h
  | nil, cons .., _ => rfl
  | cons .., nil, _ => rfl
  | cons o a n b r, cons o' a' n' b' r', h => by
    have : eqB r r' = false := eqB_len fun e => h (by simp [len, e])
    simp [eqB, this]
end F
/-- What may be read: a slice of cells at an address. -/
def Vw (ρ : Store) (ns : List Nat) (a : Option Addr) (l : List Value) : Prop := (a = none ∧ l = []) ∨ Rd ρ ns a l
variable {h : AW} {μ : Paint} {ρ ρ' : Store} {ns : List Nat}
theorem Vw.sl {a : Option Addr} {l : List Value} (X : Vw ρ ns a l) (O : Own h μ ρ) : Sl h a l := X.elim (fun x => .inl x) fun x => x.sl O
theorem Vw.mono {ms : List Nat} {a : Option Addr} {l : List Value} (X : Vw ρ ns a l) (hs : ∀ c, c ∈ ms → c ∈ ns) : Vw ρ ms a l := X.imp id fun x => x.mono hs
theorem Vw.keep {a : Option Addr} {l : List Value} (X : Vw ρ ns a l) (F : Fra ns ρ ρ') : Vw ρ' ns a l := X.imp id fun x => x.keep F

/-- How a list of statements lies: its cells, and what they point to. -/
def Lies (V : Option Addr → List Value → Prop) : F → List Value → Prop
  | .nil, cells => cells = []
  | .cons op args n body rest, cells => ∃ aa ac ba bc bcells rcells, cells = [.int .i64 op, .slice aa args.length ac, .int .i64 n, .slice ba body.len bc] ++ rcells ∧ V aa (strs args) ∧ V ba bcells ∧ Lies V body bcells ∧ Lies V rest rcells
theorem Lies.mono {V V' : Option Addr → List Value → Prop} (hV : ∀ a l, V a l → V' a l) : ∀ {f : F} {cells : List Value}, Lies V f cells → Lies V' f cells
  | .nil, _, h => h
  | .cons _ _ _ _ _, _, ⟨aa, ac, ba, bc, bcells, rcells, h1, h2, h3, h4, h5⟩ => ⟨aa, ac, ba, bc, bcells, rcells, h1, hV _ _ h2, hV _ _ h3, Lies.mono hV h4, Lies.mono hV h5⟩
theorem Lies.len {V : Option Addr → List Value → Prop} : ∀ {f : F} {cells : List Value}, Lies V f cells → cells.length = f.len * 4
  | .nil, _, h => by
    have h : _ = [] := h
    rw [h]; simp [F.len]
  | .cons _ _ _ _ _, _, ⟨aa, ac, ba, bc, bcells, rcells, h1, h2, h3, h4, h5⟩ => by
    rw [h1]
    have := Lies.len h5
    simp [F.len, this]; omega
theorem Lies.app {V : Option Addr → List Value → Prop} : ∀ {f g : F} {c1 c2 : List Value}, Lies V f c1 → Lies V g c2 → Lies V (f.app g) (c1 ++ c2)
  | .nil, g, c1, c2, h, k => by
    have h : c1 = [] := h
    rw [h]; exact k
  | .cons _ _ _ _ _, g, c1, c2, ⟨aa, ac, ba, bc, bcells, rcells, h1, h2, h3, h4, h5⟩, k => ⟨aa, ac, ba, bc, bcells, rcells ++ c2, by rw [h1]; simp, h2, h3, h4, Lies.app h5 k⟩
theorem lies_split {V : Option Addr → List Value → Prop} : ∀ {f g : F} {c : List Value}, Lies V (f.app g) c → ∃ c1 c2, c = c1 ++ c2 ∧ Lies V f c1 ∧ Lies V g c2
  | .nil, g, c, h => ⟨[], c, rfl, rfl, h⟩
  | .cons _ _ _ _ _, g, c, ⟨aa, ac, ba, bc, bcells, rcells, h1, h2, h3, h4, h5⟩ => by
    obtain ⟨c1, c2, e, k1, k2⟩ := lies_split h5
    exact ⟨_ ++ c1, c2, by rw [h1, e, List.append_assoc], ⟨aa, ac, ba, bc, bcells, c1, rfl, h2, h3, h4, k1⟩, k2⟩
/-- The statement at a place. -/
theorem lies_at {V : Option Addr → List Value → Prop} {pre rest body : F} {op n : Int} {args : List Str} {c : List Value} (L : Lies V (pre.app (.cons op args n body rest)) c) :
    ∃ aa ac ba bc bcells, V aa (strs args) ∧ V ba bcells ∧ Lies V body bcells ∧
      c[pre.len * 4]? = some (.int .i64 op) ∧ c[pre.len * 4 + 1]? = some (.slice aa args.length ac) ∧ c[pre.len * 4 + 2]? = some (.int .i64 n) ∧ c[pre.len * 4 + 3]? = some (.slice ba body.len bc) := by
  obtain ⟨c1, c2, rfl, L1, aa, ac, ba, bc, bcells, rcells, rfl, h2, h3, h4, h5⟩ := lies_split L
  have hl := L1.len
  refine ⟨aa, ac, ba, bc, bcells, h2, h3, h4, ?_, ?_, ?_, ?_⟩
  · rw [List.getElem?_append_right (by omega), hl, Nat.sub_self]; rfl
  · rw [List.getElem?_append_right (by omega), hl, show pre.len * 4 + 1 - pre.len * 4 = 1 from by omega]; rfl
  · rw [List.getElem?_append_right (by omega), hl, show pre.len * 4 + 2 - pre.len * 4 = 2 from by omega]; rfl
  · rw [List.getElem?_append_right (by omega), hl, show pre.len * 4 + 3 - pre.len * 4 = 3 from by omega]; rfl
namespace F
/-- One statement behind the others. -/
def snoc (f : F) (op : Int) (args : List Str) (n : Int) (body : F) : F := f.app (.cons op args n body .nil)
theorem snoc_app (f : F) (op : Int) (args : List Str) (n : Int) (body rest : F) : (f.snoc op args n body).app rest = f.app (.cons op args n body rest) := by
  unfold snoc; rw [app_assoc]; rfl
theorem snoc_len (f : F) (op : Int) (args : List Str) (n : Int) (body : F) : (f.snoc op args n body).len = f.len + 1 := by
  unfold snoc; rw [app_len]; rfl
end F
end Go.Abs.Fo
end

section
/- Actions: lines of words as statements, and what is said of them; no Go in it. -/
namespace Go.Abs.Fo
open Go.Abs

abbrev Line := List Str
abbrev wEnd : Str := ⟨#[101, 110, 100]⟩
abbrev wNeed : Str := ⟨#[110, 101, 101, 100]⟩
abbrev wCat : Str := ⟨#[99, 97, 116]⟩
abbrev wText : Str := ⟨#[116, 101, 120, 116]⟩
abbrev wUpper : Str := ⟨#[117, 112, 112, 101, 114]⟩
abbrev wSort : Str := ⟨#[115, 111, 114, 116]⟩
abbrev wUniq : Str := ⟨#[117, 110, 105, 113]⟩
abbrev wCount : Str := ⟨#[99, 111, 117, 110, 116]⟩
abbrev wWrite : Str := ⟨#[119, 114, 105, 116, 101]⟩
abbrev wFail : Str := ⟨#[102, 97, 105, 108]⟩
abbrev wRepeat : Str := ⟨#[114, 101, 112, 101, 97, 116]⟩
abbrev wEach : Str := ⟨#[101, 97, 99, 104]⟩
abbrev wWhen : Str := ⟨#[119, 104, 101, 110]⟩
abbrev kinds : List Str := [e0, wNeed, wCat, wText, wUpper, wSort, wUniq, wCount, wWrite, wFail, wRepeat, wEach, wWhen]
/-- A kind's first word. -/
def wordM (op : Int) : Str := match op with
  | .ofNat n => (kinds[n]?).getD e0
  | .negSucc _ => e0
/-- The kind of a first word; 0: none. -/
def opOf (w : Str) : Nat :=
  if w = wNeed then 1 else if w = wCat then 2 else if w = wText then 3 else if w = wUpper then 4 else if w = wSort then 5 else if w = wUniq then 6
  else if w = wCount then 7 else if w = wWrite then 8 else if w = wFail then 9 else if w = wRepeat then 10 else if w = wEach then 11 else if w = wWhen then 12 else 0
/-- How many words a kind has; -1: any number. -/
def argsM (op : Int) : Int := if op = 1 ∨ op = 2 ∨ op = 8 ∨ op = 11 then 1 else if op = 3 ∨ op = 9 then -1 else if op = 12 then 2 else 0
def fitsM (op : Int) (n : Nat) : Bool := decide (argsM op < 0) || decide (argsM op = n)
def opensM (op : Int) : Bool := decide (10 ≤ op) && decide (op ≤ 12)
/-- A number in decimal digits. -/
def digB (n : Nat) : UInt8 := UInt8.ofNat (48 + n % 10)
def digits : Nat → Nat → List UInt8
  | 0, n => [digB n]
  | k + 1, n => if n ≥ 10 then digits k (n / 10) ++ [digB n] else [digB n]
def digS (n : Nat) : Str := ⟨⟨digits 20 n⟩⟩
/-- The number that digits say. -/
def numL : List UInt8 → Nat → Option Nat
  | [], n => some n
  | b :: l, n => if b.toNat < 48 ∨ 57 < b.toNat then none else numL l (10 * n + (b.toNat - 48))
def numM (s : Str) : Int :=
  if s.size < 1 ∨ 4 < s.size then -1 else
  match numL s.data.toList 0 with
  | none => -1
  | some n => if n > 1000 ∨ digS n ≠ s then -1 else n
/-- A line as a statement. -/
structure X where
  op : Int
  args : List Str
  n : Int
  ok : Bool
  deriving DecidableEq
def stmtM : Line → X
  | [] => ⟨0, [], 0, false⟩
  | w :: args =>
    if opOf w = 10 then
      match args with
      | [s] => ⟨10, [], numM s, decide (numM s ≥ 0)⟩
      | _ => ⟨0, [], 0, false⟩
    else ⟨opOf w, args, 0, decide (0 < opOf w) && fitsM (opOf w) args.length⟩
/-- Where a reader of lines stands. -/
structure PS where
  i : Nat
  many : Nat
  err : Int
  bad : Int
/-- The statements of a body. -/
def bd : Nat → Nat → List Line → PS → F × List Line × PS
  | 0, _, r, s => (.nil, r, s)
  | n + 1, deep, r, s =>
    if s.err ≠ 0 then (.nil, r, s) else
    match r with
    | [] => (.nil, [], if deep > 0 then { s with err := 131, bad := s.i } else s)
    | l :: r =>
      if l = [wEnd] then (.nil, r, if deep = 0 then { s with i := s.i + 1, err := 131, bad := s.i } else { s with i := s.i + 1 }) else
      let x := stmtM l
      if x.ok = false then (.cons x.op x.args x.n .nil .nil, r, ⟨s.i + 1, s.many + 1, 130, s.i⟩)
      else if s.many + 1 > 256 then (.cons x.op x.args x.n .nil .nil, r, ⟨s.i + 1, s.many + 1, 3, s.i⟩)
      else if opensM x.op = true then
        if deep = 8 then (.cons x.op x.args x.n .nil .nil, r, ⟨s.i + 1, s.many + 1, 132, s.i⟩) else
        let p := bd n (deep + 1) r ⟨s.i + 1, s.many + 1, 0, s.bad⟩
        let q := bd n deep p.2.1 p.2.2
        (.cons x.op x.args x.n p.1 q.1, q.2.1, q.2.2)
      else
        let q := bd n deep r ⟨s.i + 1, s.many + 1, 0, s.bad⟩
        (.cons x.op x.args x.n .nil q.1, q.2.1, q.2.2)
def ps0 : PS := ⟨0, 0, 0, 0⟩
/-- Lines as statements, or where they go wrong. -/
def parseM (ls : List Line) : F × Int × Int :=
  let p := bd (ls.length + 1) 0 ls ps0
  if p.2.2.err ≠ 0 then (.nil, p.2.2.err, p.2.2.bad) else (p.1, 0, 0)
/-- The first error of lines. -/
def chk : List Line → Nat → Nat → Nat → Int × Int
  | [], i, o, _ => if o > 0 then (131, i) else (0, 0)
  | l :: r, i, o, m =>
    if l = [wEnd] then (if o = 0 then (131, i) else chk r (i + 1) (o - 1) m) else
    let x := stmtM l
    if x.ok = false then (130, i)
    else if m + 1 > 256 then (3, i)
    else if opensM x.op = true then (if o = 8 then (132, i) else chk r (i + 1) (o + 1) (m + 1))
    else chk r (i + 1) o (m + 1)
/-- The statements up to an end. -/
def unt : Nat → List Line → F × List Line
  | 0, r => (.nil, r)
  | _ + 1, [] => (.nil, [])
  | n + 1, l :: r =>
    if l = [wEnd] then (.nil, l :: r) else
    let x := stmtM l
    if opensM x.op = true then
      let p := unt n r
      let q := unt n p.2.tail
      (.cons x.op x.args x.n p.1 q.1, q.2)
    else
      let q := unt n r
      (.cons x.op x.args x.n .nil q.1, q.2)

theorem bd_len : ∀ (n deep : Nat) (r : List Line) (s : PS), (bd n deep r s).2.1.length ≤ r.length
  | 0, _, r, s => Nat.le_refl _
  | n + 1, deep, r, s => by
    unfold bd
    split
    · exact Nat.le_refl _
    · cases r with
      | nil => exact Nat.le_refl _
      | cons l r =>
        simp only
        split
        · simp
        · split
          · simp
          · split
            · simp
            · split
              · split
                · simp
                · have h1 := bd_len n (deep + 1) r ⟨s.i + 1, s.many + 1, 0, s.bad⟩
                  have h2 := bd_len n deep (bd n (deep + 1) r ⟨s.i + 1, s.many + 1, 0, s.bad⟩).2.1 (bd n (deep + 1) r ⟨s.i + 1, s.many + 1, 0, s.bad⟩).2.2
                  simp only [List.length_cons]; omega
              · have h1 := bd_len n deep r ⟨s.i + 1, s.many + 1, 0, s.bad⟩
                simp only [List.length_cons]; omega
theorem bd_err {n deep : Nat} {r : List Line} {s : PS} (h : s.err ≠ 0) : bd n deep r s = (.nil, r, s) := by
  cases n with
  | zero => rfl
  | succ n => cases r <;> rw [bd, if_pos h]
/-- What is read as said is read as made. -/
theorem bd_chk : ∀ (n deep : Nat) (r : List Line) (s : PS), r.length < n → s.err = 0 → deep ≤ 8 →
    ((bd n deep r s).2.2.err ≠ 0 ∧ chk r s.i deep s.many = ((bd n deep r s).2.2.err, (bd n deep r s).2.2.bad)) ∨
    ((bd n deep r s).2.2.err = 0 ∧ (bd n deep r s).2.2.bad = s.bad ∧
      (deep = 0 → (bd n deep r s).2.1 = [] ∧ chk r s.i deep s.many = (0, 0) ∧ unt n r = ((bd n deep r s).1, [])) ∧
      (0 < deep → chk r s.i deep s.many = chk (bd n deep r s).2.1 (bd n deep r s).2.2.i (deep - 1) (bd n deep r s).2.2.many ∧ unt n r = ((bd n deep r s).1, [wEnd] :: (bd n deep r s).2.1)))
  | 0, _, r, s => fun h => by omega
  | n + 1, deep, r, s => fun hr he hd => by
    cases r with
    | nil =>
      rw [bd, if_neg (by simp [he])]
      simp only [chk, unt]
      by_cases h0 : deep > 0
      · rw [if_pos h0, if_pos h0]
        exact .inl ⟨by simp, rfl⟩
      · rw [if_neg h0]
        exact .inr ⟨he, rfl, fun e => ⟨trivial, by rw [if_neg h0], by simp⟩, fun h => absurd h h0⟩
    | cons l r =>
      simp only [List.length_cons] at hr
      rw [bd, if_neg (by simp [he])]
      simp only [chk, unt]
      by_cases hl : l = [wEnd]
      · rw [if_pos hl, if_pos hl, if_pos hl]
        by_cases h0 : deep = 0
        · subst h0
          rw [if_pos rfl, if_pos rfl]
          exact .inl ⟨by simp, rfl⟩
        · rw [if_neg h0, if_neg h0]
          exact .inr ⟨he, rfl, fun h => absurd h h0, fun _ => ⟨rfl, by subst hl; simp⟩⟩
      · rw [if_neg hl, if_neg hl, if_neg hl]
        by_cases hx : (stmtM l).ok = false
        · rw [if_pos hx, if_pos hx]
          exact .inl ⟨by simp, rfl⟩
        · rw [if_neg hx, if_neg hx]
          by_cases hm : s.many + 1 > 256
          · rw [if_pos hm, if_pos hm]
            exact .inl ⟨by simp, rfl⟩
          · rw [if_neg hm, if_neg hm]
            by_cases ho : opensM (stmtM l).op = true
            · rw [if_pos ho, if_pos ho, if_pos ho]
              by_cases h8 : deep = 8
              · rw [if_pos h8, if_pos h8]
                exact .inl ⟨by simp, rfl⟩
              · rw [if_neg h8, if_neg h8]
                have h1 := bd_chk n (deep + 1) r ⟨s.i + 1, s.many + 1, 0, s.bad⟩ (by omega) rfl (by omega)
                have hle := bd_len n (deep + 1) r ⟨s.i + 1, s.many + 1, 0, s.bad⟩
                generalize bd n (deep + 1) r ⟨s.i + 1, s.many + 1, 0, s.bad⟩ = p at h1 hle
                obtain ⟨f1, r1, s1⟩ := p
                simp only at h1 hle ⊢
                rcases h1 with ⟨e1, c1⟩ | ⟨e1, b1, _, k1⟩
                · rw [bd_err e1]
                  exact .inl ⟨e1, c1⟩
                · obtain ⟨c1, u1⟩ := k1 (by omega)
                  rw [c1, u1]
                  have h2 := bd_chk n deep r1 s1 (by omega) e1 hd
                  simp only [List.tail_cons, Nat.add_sub_cancel]
                  generalize bd n deep r1 s1 = q at h2
                  obtain ⟨f2, r2, s2⟩ := q
                  simp only at h2 ⊢
                  rcases h2 with ⟨e2, c2⟩ | ⟨e2, b2, z2, k2⟩
                  · exact .inl ⟨e2, c2⟩
                  · refine .inr ⟨e2, by rw [b2, b1], fun h0 => ?_, fun h0 => ?_⟩
                    · obtain ⟨a, b, c⟩ := z2 h0
                      exact ⟨a, b, by rw [c]⟩
                    · obtain ⟨a, b⟩ := k2 h0
                      exact ⟨a, by rw [b]⟩
            · rw [if_neg ho, if_neg ho, if_neg ho]
              have h2 := bd_chk n deep r ⟨s.i + 1, s.many + 1, 0, s.bad⟩ (by omega) rfl hd
              generalize bd n deep r ⟨s.i + 1, s.many + 1, 0, s.bad⟩ = q at h2
              obtain ⟨f2, r2, s2⟩ := q
              simp only at h2 ⊢
              rcases h2 with ⟨e2, c2⟩ | ⟨e2, b2, z2, k2⟩
              · exact .inl ⟨e2, c2⟩
              · refine .inr ⟨e2, b2, fun h0 => ?_, fun h0 => ?_⟩
                · obtain ⟨a, b, c⟩ := z2 h0
                  exact ⟨a, b, by rw [c]⟩
                · obtain ⟨a, b⟩ := k2 h0
                  exact ⟨a, by rw [b]⟩
/-- Lines that are read as said. -/
theorem parse_said (ls : List Line) : parseM ls = (if (chk ls 0 0 0).1 ≠ 0 then (.nil, (chk ls 0 0 0).1, (chk ls 0 0 0).2) else ((unt (ls.length + 1) ls).1, 0, 0)) := by
  have h := bd_chk (ls.length + 1) 0 ls ps0 (by omega) rfl (by omega)
  unfold parseM
  simp only
  rcases h with ⟨e, c⟩ | ⟨e, _, z, _⟩
  · rw [if_pos e]
    have c' : chk ls 0 0 0 = _ := c
    rw [c', if_pos e]
  · obtain ⟨_, c, u⟩ := z rfl
    have c' : chk ls 0 0 0 = _ := c
    rw [if_neg (by simpa using e), c', if_neg (by simp), u]
end Go.Abs.Fo
end

section
/- Readers: what is read stays; statements in memory. -/
namespace Go.Abs
variable {h h' : AW} {μ μ' : Paint} {P : Program} {ρ0 ρ ρ' : Store} {ns : List Nat} {rs : List Res} {c : Nat}
theorem Pcs.keep0 (W : Pcs ρ0 ρ ns rs) (F : Fra [] ρ ρ') : Pcs ρ0 ρ' ns rs :=
  ⟨W.nodup, W.len, fun i c r hc hr => F c r (by simp) (W.at_ i c r hc hr), fun c r hn hc => F c r (by simp) (W.fra c r hn hc)⟩
theorem p00 : Pcs ρ ρ [] [] := Pcs.init List.nodup_nil rfl (by intro i c r h; simp at h)
/-- New names alone. -/
theorem Pcs.fra0 (W : Pcs ρ0 ρ ns rs) (hn : ∀ c, c ∈ ns → ρ0 c = none) : Fra [] ρ0 ρ := fun c r _ hc => W.fra c r (fun hm => by rw [hn c hm] at hc; cases hc) hc
theorem Fra.none0 (F : Fra [] ρ ρ') (h : ρ' c = none) : ρ c = none := by
  cases hx : ρ c with
  | none => rfl
  | some r => rw [F c r (by simp) hx] at h; cases h
/-- What a reader comes to. -/
def RdQ (Q : Value → AW → Prop) (ρ : Store) (v : Value) : Prop := ∀ h' μ' ρ', Own h' μ' ρ' → Fra [] ρ ρ' → Q v h'
theorem RdQ.keep {Q : Value → AW → Prop} {v : Value} (H : RdQ Q ρ v) (F : Fra [] ρ ρ') : RdQ Q ρ' v := fun h' μ' ρ'' O G => H h' μ' ρ'' O (F.trans G)
theorem RdQ.now {Q : Value → AW → Prop} {v : Value} (H : RdQ Q ρ v) (O : Own h μ ρ) : Q v h := H h μ ρ O Fra.refl
/-- A copy of plain cells. -/
theorem w_copy (O : Own h μ ρ) (W : Pcs ρ0 ρ ns rs) {zs vs : List Value} {f : AW → Prop} (hl : vs.length = zs.length) (ha : allOne vs = true) (hs : setAll zs 0 vs = vs)
    (H : ∀ h' μ' ρ' c, Own h' μ' ρ' → Pcs ρ0 ρ' (c :: ns) (.var h.next vs :: rs) → ρ0 c = none → f h') : oB (AW.wrL (h.addVar zs) h.next 0 vs) f := by
  obtain ⟨μ1, ρ1, c, O1, W1, hc⟩ := w_new O W zs
  refine w_wrL O1 W1 0 (j := 0) rfl (by omega) ha fun h2 ρ2 O2 W2 => ?_
  exact H h2 _ ρ2 c O2 (W2.eq (by simp [hs])) hc
/-- .. and what was there stays. -/
theorem w_copyF (O : Own h μ ρ) (W : Pcs ρ0 ρ ns rs) {zs vs : List Value} {f : AW → Prop} (hl : vs.length = zs.length) (ha : allOne vs = true) (hs : setAll zs 0 vs = vs)
    (H : ∀ h' μ' ρ' c, Own h' μ' ρ' → Pcs ρ0 ρ' (c :: ns) (.var h.next vs :: rs) → ρ0 c = none → Fra [] ρ ρ' → f h') : oB (AW.wrL (h.addVar zs) h.next 0 vs) f := by
  obtain ⟨μ1, ρ1, c, O1, W1, hc⟩ := w_new O p00 zs
  refine w_wrL O1 W1 0 (j := 0) rfl (by omega) ha fun h2 ρ2 O2 W2 => ?_
  have W3 : Pcs ρ ρ2 [c] [.var h.next vs] := W2.eq (by simp [hs])
  exact H h2 _ ρ2 c O2 (W.adopt W3 hc) (W.not0 hc) (W3.fra0 fun d hd => by simp at hd; rw [hd]; exact hc)
theorem oB_bind {α : Type} {x : Option α} {v : α} {f : α → Prop} (h : x = some v) (H : f v) : oB x f := by rw [h]; exact H
namespace Fo
/-- A list of statements that may be read at a place. -/
def Ly (ρ : Store) (f : F) (a : Option Addr) : Prop := ∃ cells, Vw ρ [] a cells ∧ Lies (Vw ρ []) f cells
theorem Ly.keep {f : F} {a : Option Addr} (X : Ly ρ f a) (F : Fra [] ρ ρ') : Ly ρ' f a := by
  obtain ⟨c, h1, h2⟩ := X
  exact ⟨c, h1.keep F, h2.mono fun a l h => h.keep F⟩
theorem Vw.nil : Vw ρ ns none [] := .inl ⟨rfl, rfl⟩
theorem Ly.nil : Ly ρ .nil none := ⟨[], .inl ⟨rfl, rfl⟩, rfl⟩
variable {V : Option Addr → List Value → Prop}
theorem app_lt {pre rest body : F} {op k : Int} {args : List Str} : pre.len < (pre.app (.cons op args k body rest)).len := by rw [F.app_len]; simp [F.len]
/-- The statement at a place, taken up. -/
theorem st_read (O : Own h μ ρ) {pre rest body : F} {op kk : Int} {args : List Str} {a : Option Addr} {c : List Value} {N : Nat} {z : Int} (X : Vw ρ [] a c) (L : Lies (Vw ρ []) (pre.app (.cons op args kk body rest)) c)
    (hz : z = pre.len) (hN : N = (pre.app (.cons op args kk body rest)).len) {f : Int → Option Addr → Nat → Nat → Int → Option Addr → Nat → Nat → Prop}
    (H : ∀ aa ac ba bc, Vw ρ [] aa (strs args) → Ly ρ body ba → f op aa args.length ac kk ba body.len bc) :
    aP a fun m7 m8 => oB (natIdx z N) fun m9 => oB (AW.rd h m7 (m8 + m9 * 4)) fun v10 => vInt .i64 v10 fun n11 => oB (AW.rd h m7 (m8 + m9 * 4 + 1)) fun v12 => vSl v12 fun p13 m14 m15 => oB (AW.rd h m7 (m8 + m9 * 4 + 1 + 1)) fun v16 => vInt .i64 v16 fun n17 =>
      oB (AW.rd h m7 (m8 + m9 * 4 + 1 + 1 + 1)) fun v18 => vSl v18 fun p19 m20 m21 => f n11 p13 m14 m15 n17 p19 m20 m21 := by
  obtain ⟨aa, ac, ba, bc, bcells, v1, v2, v3, c0, c1, c2, c3⟩ := lies_at L
  refine (X.sl O).ix (sz := 4) hz (by rw [hN]; exact L.len) (by omega) (by rw [hN]; exact app_lt) fun i off ea hr => ?_
  have r0 := hr 0 (by omega)
  rw [Nat.add_zero, Nat.add_zero] at r0
  refine oB_bind (r0.trans c0) ?_
  simp only [vInt_int]
  refine oB_bind ((hr 1 (by omega)).trans c1) ?_
  simp only [vSl_slice]
  refine oB_bind ((hr 2 (by omega)).trans c2) ?_
  simp only [vInt_int]
  refine oB_bind ((hr 3 (by omega)).trans c3) ?_
  simp only [vSl_slice]
  exact H aa ac ba bc v1 ⟨_, v2, v3⟩
/-- .. and copied. -/
theorem st_copy (O : Own h μ ρ) {pre rest body : F} {op kk : Int} {args : List Str} {a : Option Addr} {c : List Value} {N : Nat} {z : Int} (X : Vw ρ [] a c) (L : Lies (Vw ρ []) (pre.app (.cons op args kk body rest)) c)
    (hz : z = pre.len) (hN : N = (pre.app (.cons op args kk body rest)).len) {f : AW → Prop}
    (H : ∀ h' μ' ρ' cc aa ac ba bc, Own h' μ' ρ' → Pcs ρ ρ' [cc] [.var h.next [.int .i64 op, .slice aa args.length ac, .int .i64 kk, .slice ba body.len bc]] → ρ cc = none → Fra [] ρ ρ' → Vw ρ' [] aa (strs args) → Ly ρ' body ba → f h') :
    aP a fun m7 m8 => oB (natIdx z N) fun m9 => oB (AW.rd h m7 (m8 + m9 * 4)) fun v10 => vInt .i64 v10 fun n11 => oB (AW.rd h m7 (m8 + m9 * 4 + 1)) fun v12 => vSl v12 fun p13 m14 m15 => oB (AW.rd h m7 (m8 + m9 * 4 + 1 + 1)) fun v16 => vInt .i64 v16 fun n17 =>
      oB (AW.rd h m7 (m8 + m9 * 4 + 1 + 1 + 1)) fun v18 => vSl v18 fun p19 m20 m21 => oB (AW.wrL (AW.addVar h [.int .i64 0, .slice none 0 0, .int .i64 0, .slice none 0 0]) (AW.next h) 0 [.int .i64 n11, .slice p13 m14 m15, .int .i64 n17, .slice p19 m20 m21]) f := by
  refine st_read O X L hz hN fun aa ac ba bc v1 v2 => ?_
  refine w_copy O p00 rfl rfl rfl fun h1 μ1 ρ1 cc O1 W1 hc => ?_
  have F1 : Fra [] ρ ρ1 := W1.fra0 fun c hc' => by simp at hc'; rw [hc']; exact hc
  exact H h1 μ1 ρ1 cc aa ac ba bc O1 W1 hc F1 (v1.keep F1) (v2.keep F1)
/-- What stands at a statement's place. -/
structure StAt (h : AW) (i p : Nat) (op : Int) (aa : Option Addr) (an ac : Nat) (kk : Int) (ba : Option Addr) (bn bc : Nat) : Prop where
  r0 : h.rd i p = some (.int .i64 op)
  r1 : h.rd i (p + 1) = some (.slice aa an ac)
  r2 : h.rd i (p + 1 + 1) = some (.int .i64 kk)
  r3 : h.rd i (p + 1 + 1 + 1) = some (.slice ba bn bc)
theorem Sl.get {i off j : Nat} {l : List Value} {v : Value} (X : Sl h (some ⟨i, off, none⟩) l) (hj : l[j]? = some v) : h.rd i (off + j) = some v := by
  rcases X with ⟨e, _⟩ | ⟨i', off', e, hr⟩
  · cases e
  · cases e
    rw [hr j (List.getElem?_eq_some_iff.1 hj).1, hj]
theorem st_open (O : Own h μ ρ) {pre rest body : F} {op kk : Int} {args : List Str} {a : Option Addr} {c : List Value} {N : Nat} {z : Int} (X : Vw ρ [] a c) (L : Lies (Vw ρ []) (pre.app (.cons op args kk body rest)) c)
    (hz : z = pre.len) (hN : N = (pre.app (.cons op args kk body rest)).len) {f : Nat → Nat → Nat → Prop}
    (H : ∀ i off aa ac ba bc, Vw ρ [] aa (strs args) → Ly ρ body ba → (∀ {h' : AW} {μ' : Paint} {ρ' : Store}, Own h' μ' ρ' → Fra [] ρ ρ' → StAt h' i (off + pre.len * 4) op aa args.length ac kk ba body.len bc) → f i off pre.len) :
    aP a fun m7 m8 => oB (natIdx z N) fun m9 => f m7 m8 m9 := by
  obtain ⟨aa, ac, ba, bc, bcells, v1, v2, v3, c0, c1, c2, c3⟩ := lies_at L
  refine (X.sl O).ix (sz := 4) hz (by rw [hN]; exact L.len) (by omega) (by rw [hN]; exact app_lt) fun i off ea hr => ?_
  refine H i off aa ac ba bc v1 ⟨_, v2, v3⟩ fun {h'} {μ'} {ρ'} O' F' => ?_
  have Y := (X.keep F').sl O'
  rw [ea] at Y
  exact ⟨Sl.get Y c0, by rw [Nat.add_assoc]; exact Sl.get Y c1, by rw [Nat.add_assoc, Nat.add_assoc]; exact Sl.get Y c2, by rw [Nat.add_assoc, Nat.add_assoc, Nat.add_assoc]; exact Sl.get Y c3⟩
/-- Lines of words that may be read. -/
structure Wds where
  a : Option Addr
  cap : Nat
  x : List Str
def Wds.cell (p : Wds) : Value := .slice p.a p.x.length p.cap
structure Lns (ρ : Store) (ps : List Wds) (a : Option Addr) : Prop where
  top : Vw ρ [] a (ps.map Wds.cell)
  each : ∀ p, p ∈ ps → Vw ρ [] p.a (strs p.x)
  caps : ∀ p, p ∈ ps → p.x.length ≤ p.cap
theorem Lns.keep {ps : List Wds} {a : Option Addr} (X : Lns ρ ps a) (F : Fra [] ρ ρ') : Lns ρ' ps a := ⟨X.top.keep F, fun p hp => (X.each p hp).keep F, X.caps⟩
theorem ln_at (O : Own h μ ρ) {ps : List Wds} {a : Option Addr} {N j : Nat} {z : Int} (X : Lns ρ ps a) (hz : z = j) (hN : N = ps.length) (hj : j < ps.length) {f : Option Addr → Nat → Nat → Prop}
    (H : Vw ρ [] ps[j].a (strs ps[j].x) → f ps[j].a ps[j].x.length ps[j].cap) : aP a fun i off => oB (natIdx z N) fun k => oB (h.rd i (off + k * 1)) fun v => vSl v f := by
  refine (X.top.sl O).i1 (v := ps[j].cell) hz (by simp [hN]) (by simp [hj]) ?_
  exact H (X.each _ (List.getElem_mem hj))
theorem wd_at (O : Own h μ ρ) {x : List Str} {a : Option Addr} {N j : Nat} {z : Int} (X : Vw ρ [] a (strs x)) (hz : z = j) (hN : N = x.length) (hj : j < x.length) {f : Str → Prop}
    (H : f x[j]) : aP a fun i off => oB (natIdx z N) fun k => oB (h.rd i (off + k * 1)) fun v => vStr v f := by
  refine (X.sl O).i1 (v := .string x[j]) hz (by simp [hN]) (by simp [hj]) ?_
  exact H
theorem sub_drop {a0 a : Option Addr} {l0 l : List Value} (S : SubOf a0 l0 a l) (m : Nat) : ∃ a', shO a m = some a' ∧ SubOf a0 l0 a' (l.drop m) := by
  obtain ⟨k, n, e, rfl⟩ := S
  match a0, e with
  | none, e =>
    simp only [shO, Option.some.injEq] at e; subst e
    exact ⟨none, rfl, k + m, n - m, rfl, by rw [List.drop_take, List.drop_drop]⟩
  | some ⟨b, off, none⟩, e =>
    simp only [shO, Option.some.injEq] at e; subst e
    exact ⟨some ⟨b, off + k + m, none⟩, rfl, k + m, n - m, by simp [shO, Nat.add_assoc], by rw [List.drop_take, List.drop_drop]⟩
  | some ⟨b, off, some s⟩, e => simp [shO] at e
theorem sub_take {a0 a : Option Addr} {l0 l : List Value} (S : SubOf a0 l0 a l) (m : Nat) : SubOf a0 l0 a (l.take m) := by
  obtain ⟨k, n, e, rfl⟩ := S
  exact ⟨k, min m n, e, by rw [List.take_take]⟩
theorem Vw.drop {a : Option Addr} {l : List Value} (X : Vw ρ ns a l) (m : Nat) : ∃ a', shO a m = some a' ∧ Vw ρ ns a' (l.drop m) := by
  rcases X with ⟨rfl, rfl⟩ | ⟨c, hn, r, hc, a0, l0, S, x⟩
  · exact ⟨none, rfl, .inl ⟨rfl, by simp⟩⟩
  · obtain ⟨a', e, S'⟩ := sub_drop S m
    exact ⟨a', e, .inr ⟨c, hn, r, hc, a0, l0, S', x⟩⟩
theorem Vw.take {a : Option Addr} {l : List Value} (X : Vw ρ ns a l) (m : Nat) : Vw ρ ns a (l.take m) := by
  rcases X with ⟨rfl, rfl⟩ | ⟨c, hn, r, hc, a0, l0, S, x⟩
  · exact .inl ⟨rfl, by simp⟩
  · exact .inr ⟨c, hn, r, hc, a0, l0, sub_take S m, x⟩
end Fo
end Go.Abs
end

section
/- What is played: lines and lists of statements that are not too great; no Go in it. -/
namespace Go.Abs.Fo
open Go.Abs
/-- The words' part of a weight, counted up to a bound. -/
def wA (most : Int) : List Str → Int → Int
  | [], n => n
  | s :: l, n => if n < most then wA most l (n + (1 + (s.size : Int))) else n
/-- No string, no list too long for the machine. -/
def Fits : F → Prop
  | .nil => True
  | .cons _ args _ body rest => args.length ≤ 140737488355328 ∧ (∀ s, s ∈ args → s.size ≤ 140737488355328) ∧ body.len ≤ 140737488355328 ∧ Fits body ∧ Fits rest
theorem wA_mono {most : Int} : ∀ {l : List Str} {n : Int}, n ≤ wA most l n
  | [], n => Int.le_refl _
  | s :: l, n => by
    rw [wA]
    split
    · have := wA_mono (most := most) (l := l) (n := n + (1 + (s.size : Int))); omega
    · exact Int.le_refl _
theorem wA_full {most : Int} : ∀ {l : List Str} {n : Int}, wA most l n < most → wA most l n = n + ((l.map fun s => 1 + s.size).sum : Nat)
  | [], n, _ => by simp [wA]
  | s :: l, n, h => by
    rw [wA] at h ⊢
    split at h
    · rename_i h1
      rw [if_pos h1, wA_full h]
      simp; omega
    · omega
/-- Lines' weight, up to a bound. -/
def wL : List (List Str) → Int → Int
  | [], n => n
  | l :: ls, n => if n < 262144 then wL ls (wA 262144 l (n + 1)) else n
def wideM (ls : List (List Str)) : Bool := decide (wL ls 0 ≥ 262144)
def Long (ls : List (List Str)) : Prop := ls.length ≤ 140737488355328 ∧ ∀ l, l ∈ ls → l.length ≤ 140737488355328 ∧ ∀ s, s ∈ l → s.size ≤ 140737488355328
/-- Lines that are played. -/
structure Mild (ls : List (List Str)) : Prop where
  len : ls.length ≤ 262144
  wds : ∀ l, l ∈ ls → l.length ≤ 262144
  str : ∀ l, l ∈ ls → ∀ s, s ∈ l → s.size ≤ 262144
theorem wL_mono : ∀ {ls : List (List Str)} {n : Int}, n ≤ wL ls n
  | [], n => Int.le_refl _
  | l :: ls, n => by
    rw [wL]
    split
    · have h1 := wA_mono (most := 262144) (l := l) (n := n + 1)
      have h2 := wL_mono (ls := ls) (n := wA 262144 l (n + 1))
      omega
    · exact Int.le_refl _
theorem wL_full : ∀ {ls : List (List Str)} {n : Int}, wL ls n < 262144 → wL ls n = n + ((ls.map fun l => 1 + (l.map fun s => 1 + s.size).sum).sum : Nat)
  | [], n, _ => by simp [wL]
  | l :: ls, n, h => by
    rw [wL] at h ⊢
    split at h
    · rename_i h1
      rw [if_pos h1]
      have m1 := wL_mono (ls := ls) (n := wA 262144 l (n + 1))
      rw [wL_full h, wA_full (by omega)]
      simp only [List.map_cons, List.sum_cons]
      push_cast
      omega
    · omega
theorem sum_mem : ∀ {l : List Nat} {a : Nat}, a ∈ l → a ≤ l.sum
  | x :: l, a, h => by
    rcases List.mem_cons.1 h with rfl | h
    · simp
    · have := sum_mem h; simp; omega
theorem sum_len : ∀ {l : List Nat}, (∀ a, a ∈ l → 1 ≤ a) → l.length ≤ l.sum
  | [], _ => by simp
  | x :: l, h => by
    have := sum_len (l := l) fun a ha => h a (by simp [ha])
    have := h x (by simp)
    simp; omega
theorem wide_not {ls : List (List Str)} (h : wideM ls = false) : Mild ls := by
  have h : ¬ wL ls 0 ≥ 262144 := of_decide_eq_false h
  have e := wL_full (ls := ls) (n := 0) (by omega)
  have hs : (ls.map fun l => 1 + (l.map fun s => 1 + s.size).sum).sum < 262144 := by omega
  have hl : ∀ l, l ∈ ls → 1 + (l.map fun s => 1 + s.size).sum ≤ 262144 := fun l hl => by
    have := sum_mem (List.mem_map_of_mem (f := fun l => 1 + (l.map fun s => 1 + s.size).sum) hl)
    omega
  refine ⟨?_, fun l h1 => ?_, fun l h1 s h2 => ?_⟩
  · have := sum_len (l := ls.map fun l => 1 + (l.map fun s => 1 + s.size).sum) (by intro a ha; obtain ⟨l, _, rfl⟩ := List.mem_map.1 ha; omega)
    simp only [List.length_map] at this; omega
  · have := hl l h1
    have h3 := sum_len (l := l.map fun s => 1 + s.size) (by intro a ha; obtain ⟨l, _, rfl⟩ := List.mem_map.1 ha; omega)
    simp only [List.length_map] at h3; omega
  · have := hl l h1
    have := sum_mem (List.mem_map_of_mem (f := fun s : Str => 1 + s.size) h2)
    omega
end Go.Abs.Fo
end
