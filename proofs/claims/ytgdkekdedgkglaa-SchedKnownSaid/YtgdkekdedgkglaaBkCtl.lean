/- Code and calls: what the deterministic semantics comes to, the model comes to. -/
import Derived.Test.YtgdkekdedgkglaaBkOpA
import Derived.Test.YtgdkekdedgkglaaBkRun
import Derived.LoopN
import Derived.Scope
open Go.RowKit
namespace Go.Abs
variable {B0 : Nat} {w0 : World} {φ : Map} {h h' : AW} {w : World} {P : Program}

def FRel (φ : Map) (F : Fr) (a : Act) : Prop := a.tmps.size = F.n ∧ ∀ t, VRel φ (F.ev (.tmp t)) (a.eval (.tmp t))
def Glob (P : Program) (φ : Map) : Prop := ∀ g, g < P.globals.size → φ g = some (g, 0, 0)

theorem FRel.mono {ψ : Map} {F : Fr} {a : Act} (hm : φ.le ψ) (h : FRel φ F a) : FRel ψ F a := ⟨h.1, fun t => (h.2 t).mono hm⟩
theorem Glob.mono {ψ : Map} (hm : φ.le ψ) (h : Glob P φ) : Glob P ψ := fun g hg => hm _ _ (h g hg)

theorem ev_ok {F : Fr} {a : Act} (hF : FRel φ F a) (hG : Glob P φ) {x : Operand} (hx : operandOk P.globals.size x = true) : VRel φ (F.ev x) (a.eval x) := by
  cases x with
  | tmp t => exact hF.2 t
  | const v => exact flat_rel hx
  | global g => exact VRel.ptr (off := 0) (hG g (ble_true hx)) (Nat.zero_le _)
  | func f => exact VRel.func' _ L2.nil L2.nil

theorem operandsOk_spec {G : Nat} : ∀ {l : List Operand}, operandsOk G l = true → ∀ x, x ∈ l → operandOk G x = true
  | [], _, x, hx => by simp at hx
  | y :: l, h, x, hx => by
    simp only [operandsOk, Bool.and_eq_true] at h
    rcases List.mem_cons.1 hx with rfl | hm
    · exact h.1
    · exact operandsOk_spec h.2 x hm
theorem opersOk_spec {G : Nat} : ∀ {l : List Oper}, opersOk G l = true → ∀ o, o ∈ l → operandsOk G o.op.operands.toList = true
  | [], _, x, hx => by simp at hx
  | y :: l, h, x, hx => by
    simp only [opersOk, Bool.and_eq_true] at h
    rcases List.mem_cons.1 hx with rfl | hm
    · exact h.1
    · exact opersOk_spec h.2 x hm

theorem rev_ok {F : Fr} {a : Act} (hF : FRel φ F a) (hG : Glob P φ) {o : Oper} (ho : operandsOk P.globals.size o.op.operands.toList = true) : Rev φ F a.eval o.op.operands.toList :=
  fun x hx => ev_ok hF hG (operandsOk_spec ho x hx)

theorem put_ok {F F' : Fr} {a : Act} {d : Option Tmp} {v v' : Value} (hF : FRel φ F a) (hp : F.put d v = some F') (hv : VRel φ v v') : FRel φ F' (a.put d v') := by
  unfold Fr.put at hp
  cases d with
  | none => simp only [Option.some.injEq] at hp; subst hp; exact hF
  | some d =>
    simp only at hp
    split at hp
    · rename_i hb
      simp only [Option.some.injEq] at hp; subst hp
      have hlt := ble_true hb
      refine ⟨by simpa [Act.put] using hF.1, fun t => ?_⟩
      by_cases htd : t = d
      · subst htd
        simp only [Fr.ev, T.get?_set_same, Act.put, Act.eval]
        rw [Array.getD_eq_getD_getElem?, Array.getElem?_setIfInBounds_self, if_pos (by rw [hF.1]; omega)]
        exact hv
      · have := hF.2 t
        simp only [Fr.ev, T.get?_set_ne _ _ htd, Act.put, Act.eval] at this ⊢
        rw [Array.getD_eq_getD_getElem?, Array.getElem?_setIfInBounds_ne (Ne.symm htd), ← Array.getD_eq_getD_getElem?]
        exact this
    · cases hp

theorem guard_ok {F : Fr} {a : Act} {ops : Array Oper} {o : Oper} {b : Bool} (hF : FRel φ F a) (hg : guardOk ops.toList F o = some b) : Region.wanted o (yielded ops a.tmps) = b := by
  unfold guardOk at hg
  unfold Region.wanted
  split at hg
  · rename_i he
    simp only [Option.some.injEq] at hg; subst hg
    rw [he]
  · rename_i j want he
    rw [he]
    simp only
    unfold yielded
    split at hg
    · rename_i oj hoj
      have hoj' : ops[j]? = some oj := by simpa using hoj
      rw [hoj']
      simp only [Option.bind_some]
      split at hg
      · rename_i d hd
        rw [hd]
        simp only [Option.bind_some]
        have hr := hF.2 d
        simp only [Fr.ev, Act.eval] at hr
        have conc : ∀ v, a.tmps.getD d undef = v → ∀ c, v = .bool c → a.tmps[d]? = some (.bool c) := by
          intro v hv c hc
          rw [Array.getD_eq_getD_getElem?] at hv
          cases hx : a.tmps[d]? with
          | none => rw [hx] at hv; simp only [Option.getD_none] at hv; rw [hc] at hv; cases hv
          | some u => rw [hx] at hv; simp only [Option.getD_some] at hv; rw [hv, hc]
        split at hg
        · rename_i c hc
          rw [hc] at hr
          simp only [Option.some.injEq] at hg; subst hg
          have := conc _ hr.bool_inv c rfl
          rw [this]
          cases c <;> cases want <;> rfl
        · rename_i hnb
          simp only [Option.some.injEq] at hg; subst hg
          have hne : ∀ c, a.tmps[d]? ≠ some (.bool c) := by
            intro c hc
            have hgd : a.tmps.getD d undef = .bool c := by rw [Array.getD_eq_getD_getElem?, hc]; rfl
            rw [hgd] at hr
            cases hx : F.t.get? d with
            | none => rw [hx] at hr; cases hr
            | some u => rw [hx] at hr; simp only at hr; cases hr; exact hnb c hx
          cases hx : a.tmps[d]? with
          | none => cases want <;> rfl
          | some u =>
            rw [hx] at hne
            cases u <;> first | (exact absurd rfl (hne _)) | (cases want <;> rfl)
      · rename_i hd
        rw [hd]
        simp only [Option.some.injEq] at hg; subst hg
        cases want <;> rfl
    · rename_i hoj
      have hoj' : ops[j]? = none := by simpa using hoj
      rw [hoj']
      simp only [Option.some.injEq] at hg; subst hg
      cases want <;> rfl

/-- What is asked of whatever answers the calls. -/
def CallOk (P : Program) (B0 : Nat) (w0 : World) (call : FuncId → List Value → AW → Option (Value × AW)) : Prop :=
  ∀ f args h v h', call f args h = some (v, h') → (∃ fn c, P.funcs[f]? = some fn ∧ fn.body = some c ∧ (fn.name == "runtime.NumGoroutine") = false) ∧
    ∀ (φ : Map) (w : World) (args' : List Value), LRel φ args args' → HRel B0 w0 φ h w → Glob P φ →
      Calls P f ⟨args'⟩ w fun e w' => ∃ ψ v', φ.le ψ ∧ e = .returned v' ∧ VRel ψ v v' ∧ HRel B0 w0 ψ h' w'

/-- One operation, whatever it is, on the way. -/
theorem step_ok {call : FuncId → List Value → AW → Option (Value × AW)} (hcall : CallOk P B0 w0 call) {ops : Array Oper} {o : Oper} {F F' : Fr} {a : Act} (hok : operandsOk P.globals.size o.op.operands.toList = true)
    (hF : FRel φ F a) (H : HRel B0 w0 φ h w) (hG : Glob P φ) (hs : stepOp P call ops.toList o F h = some (F', h')) (K : Act → World → Prop) (Q : Exit → Act → World → Prop)
    (hK : ∀ ψ a' w', φ.le ψ → FRel ψ F' a' → HRel B0 w0 ψ h' w' → a'.defers = a.defers → K a' w') :
    if Region.wanted o (yielded ops a.tmps) then o.wp P a w K Q else K (a.put o.dst undef) w := by
  have hdef : ∀ d v, (a.put d v).defers = a.defers := fun d v => by cases d <;> rfl
  unfold stepOp at hs
  split at hs
  · rename_i hg
    rw [guard_ok hF hg, if_pos rfl]
    split at hs
    · rename_i v h2 hv
      split at hs
      · rename_i F2 hput
        simp only [Option.some.injEq, Prod.mk.injEq] at hs
        obtain ⟨rfl, rfl⟩ := hs
        split at hv
        · rename_i f args ats hop
          split at hv
          · rename_i fid cargs ht
            unfold target at ht
            simp only at ht
            split at ht
            · rename_i f' first captured hfe
              simp only [Option.some.injEq, Prod.mk.injEq] at ht
              obtain ⟨rfl, rfl⟩ := ht
              obtain ⟨⟨fn, c, hfn, hbody, hname⟩, hcalls⟩ := hcall _ _ _ _ _ hv
              rw [hop] at hok
              have hf := ev_ok hF hG (operandsOk_spec hok f (by simp [Op.operands, Call.operands]))
              rw [hfe] at hf
              obtain ⟨first', captured', hfc, hl1, hl2⟩ := hf.func_inv
              have hargs : LRel φ (vals F args) (args.map a.eval).toList := by
                rw [Array.toList_map]
                exact L2.self_map fun x hx => ev_ok hF hG (operandsOk_spec hok x (by simp [Op.operands, Call.operands]; exact .inr (by simpa using hx)))
              have hall : LRel φ (first.toList ++ (vals F args ++ captured.toList)) (first'.toList ++ ((args.map a.eval).toList ++ captured'.toList)) := hl1.append (hargs.append hl2)
              have hC := hcalls φ w _ hall H hG
              have hrun : (execOp a.eval o).run P w = .ok (.enter f' ⟨first'.toList ++ ((args.map a.eval).toList ++ captured'.toList)⟩) w := by
                have harr : (first' ++ args.map a.eval ++ captured' : Array Value) = ⟨first'.toList ++ ((args.map a.eval).toList ++ captured'.toList)⟩ := by
                  apply Array.ext'; simp
                simp only [execOp, hop, resolve, hfc, Deferred.ofValue, Sem.run_bind, Sem.run_pure, Result.andThen_ok, invoke, callFunc, run_program, hfn, hname, Bool.false_eq_true, if_false, hbody, Option.isNone_some, harr]
              unfold Oper.wp
              rw [hrun, Oper.upon_enter]
              refine hC.mono fun e w' he => ?_
              obtain ⟨ψ, v', hle, rfl, hvr, H'⟩ := he
              exact hK ψ _ w' hle (put_ok (hF.mono hle) hput hvr) H' (hdef _ _)
            · cases ht
          · cases hv
        · obtain ⟨ψ, v', w', hgives, hle, hvr, H'⟩ := opV_ok H (rev_ok hF hG hok) hv
          have hfin := hK ψ (a.put o.dst v') w' hle (put_ok (hF.mono hle) hput hvr) H' (hdef _ _)
          unfold Oper.wp
          rcases hgives with hg1 | ⟨rfl, hg1⟩
          · rw [hg1, Oper.upon_value]; exact hfin
          · rw [hg1, Oper.upon_skip]; exact hfin
      · cases hs
    · cases hs
  · rename_i hg
    rw [guard_ok hF hg, if_neg (by simp)]
    split at hs
    · rename_i F2 hput
      simp only [Option.some.injEq, Prod.mk.injEq] at hs
      obtain ⟨rfl, rfl⟩ := hs
      exact hK φ _ w φ.le_refl (put_ok hF hput VRel.undef) H (hdef _ _)
    · cases hs
  · cases hs

theorem runOps_ok {call : FuncId → List Value → AW → Option (Value × AW)} (hcall : CallOk P B0 w0 call) {ops : Array Oper} (hok : opersOk P.globals.size ops.toList = true) {Q : Exit → Act → World → Prop} :
    ∀ (l : List Oper) (k : Nat) (φ : Map) (F F' : Fr) (h h' : AW) (a : Act) (w : World), (∀ i, l[i]? = ops[k + i]?) → runOps P call ops.toList l F h = some (F', h') → FRel φ F a → HRel B0 w0 φ h w → Glob P φ →
      (∀ ψ a' w', φ.le ψ → FRel ψ F' a' → HRel B0 w0 ψ h' w' → a'.defers = a.defers → Q .normal a' w') → wpOps P ops Q (List.range' k l.length) a w
  | [], k, φ, F, F', h, h', a, w, _, hr, hF, H, hG, hQ => by
    simp only [runOps, Option.some.injEq, Prod.mk.injEq] at hr
    obtain ⟨rfl, rfl⟩ := hr
    exact hQ φ a w φ.le_refl hF H rfl
  | o :: l, k, φ, F, F', h, h', a, w, hl, hr, hF, H, hG, hQ => by
    simp only [runOps] at hr
    split at hr
    · rename_i F1 h1 hs
      have hk : ops[k]? = some o := by have := hl 0; simpa using this.symm
      have hmem : o ∈ ops.toList := by
        have : ops.toList[k]? = some o := by simpa using hk
        exact List.mem_of_getElem? this
      have := step_ok hcall (ops := ops) (opersOk_spec hok o hmem) hF H hG hs (wpOps P ops Q (List.range' (k + 1) l.length)) Q
        (fun ψ a' w' hle hF' H' hd => runOps_ok hcall hok l (k + 1) ψ F1 F' h1 h' a' w' (fun i => by have := hl (i + 1); rw [show k + 1 + i = k + (i + 1) from by omega]; simpa using this) hr hF' H' (hG.mono hle)
          (fun ψ' a'' w'' hle' hF'' H'' hd' => hQ ψ' a'' w'' (Map.le_trans hle hle') hF'' H'' (hd'.trans hd)))
      rw [List.length_cons, List.range'_succ]
      simp only [wpOps, hk]
      split at this
      · rename_i hw
        rw [if_pos hw]
        exact .inl this
      · rename_i hw
        rw [if_neg hw]
        exact this
    · cases hr

def Ex.toExit : Ex → Exit
  | .normal => .normal
  | .exit id => .exit id
  | .ret => .ret

/-- What a drawn region must give: whatever the order, the end of the text's own. -/
def DrawnOk (P : Program) (B0 : Nat) (w0 : World) (call : FuncId → List Value → AW → Option (Value × AW)) : Prop :=
  ∀ (ops : Array Oper) (F F' : Fr) (h h' : AW), runDrawn P call ops F h = some (F', h') → opersOk P.globals.size ops.toList = true → P.follows .mixedOrders = true →
    ∀ (φ : Map) (a : Act) (w : World), FRel φ F a → HRel B0 w0 φ h w → Glob P φ → ∀ (id : Nat) (Q : Exit → Act → World → Prop),
      (∀ ψ a' w', φ.le ψ → FRel ψ F' a' → HRel B0 w0 ψ h' w' → a'.defers = a.defers → Q .normal a' w') → (Code.region id ops true).wp P Q a w

theorem run_ok {call : FuncId → List Value → AW → Option (Value × AW)} (hcall : CallOk P B0 w0 call) (hdrawn : DrawnOk P B0 w0 call) (hmix : P.follows .mixedOrders = true) : ∀ (n : Nat),
    (∀ (c : Code) (F F' : Fr) (h h' : AW) (e : Ex), run P call n c F h = some (e, F', h') → codeOk P.globals.size c = true → ∀ (φ : Map) (a : Act) (w : World), FRel φ F a → HRel B0 w0 φ h w → Glob P φ →
      ∀ (Q : Exit → Act → World → Prop), (∀ ψ a' w', φ.le ψ → FRel ψ F' a' → HRel B0 w0 ψ h' w' → a'.defers = a.defers → Q e.toExit a' w') → c.wp P Q a w) ∧
    (∀ (b : Code) (F F' : Fr) (h h' : AW) (e : Ex), run P call n (.loop b) F h = some (e, F', h') → codeOk P.globals.size b = true → ∀ (φ : Map) (a : Act) (w : World), FRel φ F a → HRel B0 w0 φ h w → Glob P φ →
      ∀ (Q : Exit → Act → World → Prop), (∀ ψ a' w', φ.le ψ → FRel ψ F' a' → HRel B0 w0 ψ h' w' → a'.defers = a.defers → Q e.toExit a' w') → Code.rounds P b Q n a w) := by
  intro n
  induction n with
  | zero => exact ⟨fun c F F' h h' e hr => by simp [run] at hr, fun b F F' h h' e hr => by simp [run] at hr⟩
  | succ n ih =>
    obtain ⟨ihA, ihB⟩ := ih
    have B : ∀ (b : Code) (F F' : Fr) (h h' : AW) (e : Ex), run P call (n + 1) (.loop b) F h = some (e, F', h') → codeOk P.globals.size b = true → ∀ (φ : Map) (a : Act) (w : World), FRel φ F a → HRel B0 w0 φ h w → Glob P φ →
      ∀ (Q : Exit → Act → World → Prop), (∀ ψ a' w', φ.le ψ → FRel ψ F' a' → HRel B0 w0 ψ h' w' → a'.defers = a.defers → Q e.toExit a' w') → Code.rounds P b Q (n + 1) a w := by
      intro b F F' h h' e hr hok φ a w hF H hG Q hQ
      rw [rounds_succ]
      simp only [run] at hr
      split at hr
      · rename_i F1 h1 hb
        refine ihA b F F1 h h1 .normal hb hok φ a w hF H hG _ (fun ψ a' w' hle hF' H' hd => ?_)
        exact ihB b F1 F' h1 h' e hr hok ψ a' w' hF' H' (hG.mono hle) Q (fun ψ' a'' w'' hle' hF'' H'' hd' => hQ ψ' a'' w'' (Map.le_trans hle hle') hF'' H'' (hd'.trans hd))
      · rename_i hnn
        refine ihA b F F' h h' e hr hok φ a w hF H hG _ (fun ψ a' w' hle hF' H' hd => ?_)
        have hq := hQ ψ a' w' hle hF' H' hd
        cases e with
        | normal => exact absurd hr (hnn F' h')
        | exit id => exact hq
        | ret => exact hq
    refine ⟨?_, B⟩
    intro c F F' h h' e hr hok φ a w hF H hG Q hQ
    cases c with
    | skip =>
      simp only [run, Option.some.injEq, Prod.mk.injEq] at hr
      obtain ⟨rfl, rfl, rfl⟩ := hr
      exact wp_skip (hQ φ a w φ.le_refl hF H rfl)
    | label l =>
      simp only [run, Option.some.injEq, Prod.mk.injEq] at hr
      obtain ⟨rfl, rfl, rfl⟩ := hr
      exact wp_label (hQ φ a w φ.le_refl hF H rfl)
    | region id ops draw =>
      simp only [run] at hr
      cases draw with
      | false =>
        simp only at hr
        split at hr
        · rename_i F1 h1 hops
          simp only [Option.some.injEq, Prod.mk.injEq] at hr
          obtain ⟨rfl, rfl, rfl⟩ := hr
          have := runOps_ok hcall (ops := ops) (by simpa [codeOk] using hok) (Q := Q) ops.toList 0 φ F F1 h h1 a w (fun i => by simp) hops hF H hG hQ
          rw [Array.length_toList, ← List.range_eq_range'] at this
          exact wp_region this
        · cases hr
      | true =>
        simp only at hr
        split at hr
        · rename_i F1 h1 hops
          simp only [Option.some.injEq, Prod.mk.injEq] at hr
          obtain ⟨rfl, rfl, rfl⟩ := hr
          exact hdrawn ops F F1 h h1 hops (by simpa [codeOk] using hok) hmix φ a w hF H hG id Q hQ
        · cases hr
    | seq x y =>
      simp only [codeOk, Bool.and_eq_true] at hok
      simp only [run] at hr
      refine wp_seq ?_
      split at hr
      · rename_i F1 h1 hx
        refine ihA x F F1 h h1 .normal hx hok.1 φ a w hF H hG _ (fun ψ a' w' hle hF' H' hd => ?_)
        exact ihA y F1 F' h1 h' e hr hok.2 ψ a' w' hF' H' (hG.mono hle) Q (fun ψ' a'' w'' hle' hF'' H'' hd' => hQ ψ' a'' w'' (Map.le_trans hle hle') hF'' H'' (hd'.trans hd))
      · rename_i hnn
        refine ihA x F F' h h' e hr hok.1 φ a w hF H hG _ (fun ψ a' w' hle hF' H' hd => ?_)
        have hq := hQ ψ a' w' hle hF' H' hd
        cases e with
        | normal => exact absurd hr (hnn F' h')
        | exit id => exact hq
        | ret => exact hq
    | cond x y z =>
      simp only [codeOk, Bool.and_eq_true] at hok
      simp only [run] at hr
      have hx := ev_ok hF hG hok.1.1
      split at hr
      · rename_i he
        rw [he] at hx
        exact wp_cond_true hx.bool_inv (ihA y F F' h h' e hr hok.1.2 φ a w hF H hG Q hQ)
      · rename_i he
        rw [he] at hx
        exact wp_cond_false hx.bool_inv (ihA z F F' h h' e hr hok.2 φ a w hF H hG Q hQ)
      · cases hr
    | block id b =>
      simp only [codeOk] at hok
      simp only [run] at hr
      refine wp_block ?_
      split at hr
      · rename_i j F1 h1 hb
        split at hr
        · rename_i hj
          have := beq_true hj
          subst this
          simp only [Option.some.injEq, Prod.mk.injEq] at hr
          obtain ⟨rfl, rfl, rfl⟩ := hr
          refine ihA b F F1 h h1 (.exit j) hb hok φ a w hF H hG _ (fun ψ a' w' hle hF' H' hd => ?_)
          have hq := hQ ψ a' w' hle hF' H' hd
          simp only [Ex.toExit, Exit.inBlock, if_true]
          exact hq
        · rename_i hj
          simp only [Option.some.injEq, Prod.mk.injEq] at hr
          obtain ⟨rfl, rfl, rfl⟩ := hr
          refine ihA b F F1 h h1 (.exit j) hb hok φ a w hF H hG _ (fun ψ a' w' hle hF' H' hd => ?_)
          have hq := hQ ψ a' w' hle hF' H' hd
          have hne : j ≠ id := by rintro rfl; rw [Nat.beq_refl] at hj; cases hj
          simp only [Ex.toExit, Exit.inBlock, if_neg hne]
          exact hq
      · rename_i hnn
        refine ihA b F F' h h' e hr hok φ a w hF H hG _ (fun ψ a' w' hle hF' H' hd => ?_)
        have hq := hQ ψ a' w' hle hF' H' hd
        cases e with
        | normal => exact hq
        | exit id => exact absurd hr (hnn _ F' h')
        | ret => exact hq
    | loop b =>
      simp only [codeOk] at hok
      exact wp_loop_rounds (n + 1) (B b F F' h h' e hr hok φ a w hF H hG Q hQ)
    | exit id =>
      simp only [run, Option.some.injEq, Prod.mk.injEq] at hr
      obtain ⟨rfl, rfl, rfl⟩ := hr
      exact wp_exit (hQ φ a w φ.le_refl hF H rfl)
    | scope b =>
      simp only [codeOk] at hok
      simp only [run] at hr
      refine wp_scope_straight (ihA b F F' h h' e hr hok φ a w hF H hG _ (fun ψ a' w' hle hF' H' hd => ?_))
      have hq := hQ ψ a' w' hle hF' H' hd
      cases e <;> exact hq
    | ret =>
      simp only [run, Option.some.injEq, Prod.mk.injEq] at hr
      obtain ⟨rfl, rfl, rfl⟩ := hr
      exact wp_ret (hQ φ a w φ.le_refl hF H rfl)
    | rangeFunc f ps x y => simp [run] at hr
    | goto l => simp [run] at hr
    | refuse s => simp [run] at hr

theorem loadVar_ok (H : HRel B0 w0 φ h w) {t : TypeId} {x x' v : Value} (hx : VRel φ x x') (hl : loadV P h t x = some v) :
    ∃ v', (do loadVar t (← asAddr x') : Sem Value).run P w = .ok v' w ∧ VRel φ v v' := by
  obtain ⟨v', h1, h2⟩ := loadV_ok (P := P) H hx hl
  refine ⟨v', ?_, h2⟩
  unfold loadV at hl
  split at hl
  · obtain ⟨_, b, σ, κ, hp, hs, rfl⟩ := hx.ptr_inv
    simpa [Instr.loadAt, Instr.sureAddr, asAddr] using h1
  · cases hl

theorem results_ok (H : HRel B0 w0 φ h w) {F : Fr} {a : Act} (hF : FRel φ F a) : ∀ {rs : List ResultVar} {vs : List Value}, resultL P F h rs = some vs →
    ∃ vs', (rs.mapM (fun | .tmp t => pure (a.tmps.getD t undef) | .cell p t => do loadVar t (← asAddr (a.tmps.getD p undef))) : Sem (List Value)).run P w = .ok vs' w ∧ LRel φ vs vs'
  | [], vs, hr => by
    simp only [resultL, Option.some.injEq] at hr; subst hr
    exact ⟨[], rfl, L2.nil⟩
  | r :: rs, vs, hr => by
    simp only [resultL] at hr
    split at hr
    · rename_i v hv
      split at hr
      · rename_i vs2 hvs
        simp only [Option.some.injEq] at hr; subst hr
        obtain ⟨vs', h1, h2⟩ := results_ok H hF hvs
        have one : ∃ v', ((match r with | .tmp t => pure (a.tmps.getD t undef) | .cell p t => do loadVar t (← asAddr (a.tmps.getD p undef)) : Sem Value)).run P w = .ok v' w ∧ VRel φ v v' := by
          cases r with
          | tmp t =>
            simp only [resultV, Option.some.injEq] at hv; subst hv
            exact ⟨_, rfl, hF.2 t⟩
          | cell p t =>
            exact loadVar_ok H (hF.2 p) hv
        obtain ⟨v', h3, h4⟩ := one
        refine ⟨v' :: vs', ?_, L2.cons h4 h2⟩
        rw [List.mapM_cons]
        simp only [Sem.run_bind, h3, Result.andThen_ok, h1, Sem.run_pure]
      · cases hr
    · cases hr

theorem callF_ok (hdrawn : ∀ call, CallOk P B0 w0 call → DrawnOk P B0 w0 call) : ∀ n, CallOk P B0 w0 (callF P n) := by
  intro n
  induction n with
  | zero => intro f args h v h' hr; simp [callF] at hr
  | succ n ih =>
    intro f args h v h' hr
    simp only [callF] at hr
    split at hr
    · rename_i fn c hb
      have hfacts : P.funcs[f]? = some fn ∧ fn.body = some c ∧ codeOk P.globals.size c = true ∧ (fn.name == "runtime.NumGoroutine") = false ∧ P.follows .mixedOrders = true := by
        unfold bodyOf at hb
        split at hb
        · rename_i fn2 hfn
          split at hb
          · rename_i c2 hc2
            split at hb
            · rename_i hx
              simp only [Option.some.injEq, Prod.mk.injEq] at hb
              obtain ⟨rfl, rfl⟩ := hb
              simp only [Bool.and_eq_true, Bool.not_eq_true'] at hx
              exact ⟨hfn, hc2, hx.1.1, hx.1.2, hx.2⟩
            · cases hb
          · cases hb
        · cases hb
      obtain ⟨hfn, hbody, hcode, hname, hmix⟩ := hfacts
      refine ⟨⟨fn, c, hfn, hbody, hname⟩, fun φ w args' hargs H hG => ?_⟩
      split at hr
      · cases hr
      · rename_i e F1 h1 hne hrun
        have hF : FRel φ { n := Nat.max args.length fn.ntmps, t := T.ofList args } { tmps := (⟨args'⟩ : Array Value) ++ Array.replicate (fn.ntmps - args'.length) undef, defers := [] } := by
          have hlen : args.length = args'.length := hargs.1
          refine ⟨?_, fun (t : Nat) => ?_⟩
          · simp only [Array.size_append, List.size_toArray, Array.size_replicate]
            show args'.length + (fn.ntmps - args'.length) = max args.length fn.ntmps
            omega
          simp only [Fr.ev, Act.eval, T.get?_ofList]
          rw [Array.getD_eq_getD_getElem?]
          by_cases ht : t < args.length
          · obtain ⟨v', hv', hr'⟩ := hargs.get (List.getElem?_eq_getElem ht)
            have ht' : t < args'.length := by omega
            rw [List.getElem?_eq_getElem ht, Array.getElem?_append_left (by simpa using ht')]
            simp only [List.getElem?_toArray, hv', Option.getD_some]
            exact hr'
          · rw [List.getElem?_eq_none (Nat.le_of_not_lt ht)]
            have : (((⟨args'⟩ : Array Value) ++ Array.replicate (fn.ntmps - args'.length) undef)[t]?).getD undef = undef := by
              rw [Array.getElem?_append_right (by simp; omega)]
              by_cases h2 : t - args'.length < fn.ntmps - args'.length
              · simp [h2]
              · simp [h2]
            rw [this]
            exact VRel.undef
        have hA := (run_ok ih (hdrawn _ ih) hmix n).1 c _ F1 h h1 e hrun hcode φ _ w hF H hG
          (bodyPost P fn fun e w' => ∃ ψ v', φ.le ψ ∧ e = .returned v' ∧ VRel ψ v v' ∧ HRel B0 w0 ψ h' w') (fun ψ a' w' hle hF' H' hd => by
            have res : ∃ v', (results fn a'.tmps).run P w' = .ok v' w' ∧ VRel ψ v v' ∧ h1 = h' := by
              have fin : ∀ vs vs', resultL P F1 h1 fn.results.toList = some vs → LRel ψ vs vs' →
                  ((fn.results.mapM (fun | .tmp t => pure (a'.tmps.getD t undef) | .cell p t => do loadVar t (← asAddr (a'.tmps.getD p undef))) : Sem (Array Value)).run P w' = .ok ⟨vs'⟩ w') →
                  (results fn a'.tmps).run P w' = .ok (if h : (⟨vs'⟩ : Array Value).size = 1 then (⟨vs'⟩ : Array Value)[0] else .tuple ⟨vs'⟩) w' := by
                intro vs vs' _ _ hm
                unfold results
                simp only [Sem.run_bind]
                refine Eq.trans (congrArg (fun r => Result.andThen r _) hm) ?_
                rfl
              split at hr
              · rename_i x hx
                simp only [Option.some.injEq, Prod.mk.injEq] at hr
                obtain ⟨rfl, rfl⟩ := hr
                obtain ⟨vs', hv1, hv2⟩ := results_ok (P := P) H' hF' hx
                obtain ⟨y, t, rfl, hy, ht⟩ := hv2.cons_left
                cases ht.nil_left
                have := fin _ _ hx hv2 (by rw [Array.mapM_eq_mapM_toList, Sem.run_map, hv1]; rfl)
                exact ⟨y, by simpa using this, hy, rfl⟩
              · rename_i vs hnot hx
                simp only [Option.some.injEq, Prod.mk.injEq] at hr
                obtain ⟨rfl, rfl⟩ := hr
                obtain ⟨vs', hv1, hv2⟩ := results_ok (P := P) H' hF' hx
                have := fin _ _ hx hv2 (by rw [Array.mapM_eq_mapM_toList, Sem.run_map, hv1]; rfl)
                have hlen : (⟨vs'⟩ : Array Value).size ≠ 1 := by
                  intro hl
                  have hl' : vs.length = 1 := by rw [hv2.1]; simpa using hl
                  match vs, hl' with
                  | [q], _ => exact hnot q rfl
                rw [dif_neg hlen] at this
                exact ⟨_, this, VRel.tuple' hv2, rfl⟩
              · cases hr
            obtain ⟨v', hv1, hv2, rfl⟩ := res
            cases e with
            | normal => exact ⟨hd, v', hv1, ψ, v', hle, rfl, hv2, H'⟩
            | exit id => exact absurd rfl (hne id)
            | ret => exact ⟨hd, v', hv1, ψ, v', hle, rfl, hv2, H'⟩)
        have := calls_of_wp (P := P) (f := f) (args := ⟨args'⟩) (R := fun e w' => ∃ ψ v', φ.le ψ ∧ e = .returned v' ∧ VRel ψ v v' ∧ HRel B0 w0 ψ h' w') hfn hbody (w := w) (by simpa using hA)
        exact this
      · cases hr
    · cases hr

end Go.Abs
