/- A deterministic heap for the model, proved sound, and walks of the program over it: part 4. No condition. -/
import Derived.Test.YtkbioibemcmanaaGreatDoorAb3
import Derived.LoopN
import Derived.Scope
import Derived.KernelRfl
import Derived.Laws.Externs
import Derived.Lib.Builder
set_option linter.unusedVariables false
set_option linter.unusedSimpArgs false
set_option linter.unusedSectionVars false
section
/- Code and calls: what the deterministic semantics comes to, the model comes to. -/
open Go.RowKit
namespace Go.Abs
variable {B0 : Zn} {w0 : World} {φ : Map} {h h' : AW} {w : World} {P : Program}
def FRel (φ : Map) (F : Fr) (a : Act) : Prop := a.tmps.size = F.n ∧ ∀ t, VRel φ (F.ev (.tmp t)) (a.eval (.tmp t))
def Glob (P : Program) (φ : Map) : Prop := ∀ g, g < P.globals.size → φ g = some (g, 0, 0)
theorem FRel.mono {ψ : Map} {F : Fr} {a : Act} (hm : φ.le ψ) (h : FRel φ F a) : FRel ψ F a := ⟨h.1, fun t => (h.2 t).mono hm⟩
theorem Glob.mono {ψ : Map} (hm : φ.le ψ) (h : Glob P φ) : Glob P ψ := fun g hg => hm _ _ (h g hg)
theorem ev_ok {F : Fr} {a : Act} (hF : FRel φ F a) (hG : Glob P φ) {x : Operand} (hx : operandOk P.globals.size x = true) : VRel φ (F.ev x) (a.eval x) := by
  cases x with
  | tmp t => exact hF.2 t
  | const v => exact flat_rel hx
  | global g => exact VRel.ptr (off := 0) (hG g (ble_true hx)) (Nat.zero_le _)
  | func f => exact VRel.func' _ L2.nil L2.nil
theorem operandsOk_spec {G : Nat} : ∀ {l : List Operand}, operandsOk G l = true → ∀ x, x ∈ l → operandOk G x = true
  | [], _, x, hx => by simp at hx
  | y :: l, h, x, hx => by
    simp only [operandsOk, Bool.and_eq_true] at h
    rcases List.mem_cons.1 hx with rfl | hm
    · exact h.1
    · exact operandsOk_spec h.2 x hm
theorem opersOk_spec {G : Nat} : ∀ {l : List Oper}, opersOk G l = true → ∀ o, o ∈ l → operandsOk G o.op.operands.toList = true
  | [], _, x, hx => by simp at hx
  | y :: l, h, x, hx => by
    simp only [opersOk, Bool.and_eq_true] at h
    rcases List.mem_cons.1 hx with rfl | hm
    · exact h.1
    · exact opersOk_spec h.2 x hm
theorem rev_ok {F : Fr} {a : Act} (hF : FRel φ F a) (hG : Glob P φ) {o : Oper} (ho : operandsOk P.globals.size o.op.operands.toList = true) : Rev φ F a.eval o.op.operands.toList :=
  fun x hx => ev_ok hF hG (operandsOk_spec ho x hx)
theorem put_ok {F F' : Fr} {a : Act} {d : Option Tmp} {v v' : Value} (hF : FRel φ F a) (hp : F.put d v = some F') (hv : VRel φ v v') : FRel φ F' (a.put d v') := by
  unfold Fr.put at hp
  cases d with
  | none => simp only [Option.some.injEq] at hp; subst hp; exact hF
  | some d =>
    simp only at hp
    split at hp
    · rename_i hb
      simp only [Option.some.injEq] at hp; subst hp
      have hlt := ble_true hb
      refine ⟨by simpa [Act.put] using hF.1, fun t => ?_⟩
      by_cases htd : t = d
      · subst htd
        simp only [Fr.ev, T.get?_set_same, Act.put, Act.eval]
        rw [Array.getD_eq_getD_getElem?, Array.getElem?_setIfInBounds_self, if_pos (by rw [hF.1]; omega)]
        exact hv
      · have := hF.2 t
        simp only [Fr.ev, T.get?_set_ne _ _ htd, Act.put, Act.eval] at this ⊢
        rw [Array.getD_eq_getD_getElem?, Array.getElem?_setIfInBounds_ne (Ne.symm htd), ← Array.getD_eq_getD_getElem?]
        exact this
    · cases hp
theorem guard_ok {F : Fr} {a : Act} {ops : Array Oper} {o : Oper} {b : Bool} (hF : FRel φ F a) (hg : guardOk ops.toList F o = some b) : Region.wanted o (yielded ops a.tmps) = b := by
  unfold guardOk at hg
  unfold Region.wanted
  split at hg
  · rename_i he
    simp only [Option.some.injEq] at hg; subst hg
    rw [he]
  · rename_i j want he
    rw [he]
    simp only
    unfold yielded
    split at hg
    · rename_i oj hoj
      have hoj' : ops[j]? = some oj := by simpa using hoj
      rw [hoj']
      simp only [Option.bind_some]
      split at hg
      · rename_i d hd
        rw [hd]
        simp only [Option.bind_some]
        have hr := hF.2 d
        simp only [Fr.ev, Act.eval] at hr
        have conc : ∀ v, a.tmps.getD d undef = v → ∀ c, v = .bool c → a.tmps[d]? = some (.bool c) := by
          intro v hv c hc
          rw [Array.getD_eq_getD_getElem?] at hv
          cases hx : a.tmps[d]? with
          | none => rw [hx] at hv; simp only [Option.getD_none] at hv; rw [hc] at hv; cases hv
          | some u => rw [hx] at hv; simp only [Option.getD_some] at hv; rw [hv, hc]
        split at hg
        · rename_i c hc
          rw [hc] at hr
          simp only [Option.some.injEq] at hg; subst hg
          have := conc _ hr.bool_inv c rfl
          rw [this]
          cases c <;> cases want <;> rfl
        · rename_i hnb
          simp only [Option.some.injEq] at hg; subst hg
          have hne : ∀ c, a.tmps[d]? ≠ some (.bool c) := by
            intro c hc
            have hgd : a.tmps.getD d undef = .bool c := by rw [Array.getD_eq_getD_getElem?, hc]; rfl
            rw [hgd] at hr
            cases hx : F.t.get? d with
            | none => rw [hx] at hr; cases hr
            | some u => rw [hx] at hr; simp only at hr; cases hr; exact hnb c hx
          cases hx : a.tmps[d]? with
          | none => cases want <;> rfl
          | some u =>
            rw [hx] at hne
            cases u <;> first | (exact absurd rfl (hne _)) | (cases want <;> rfl)
      · rename_i hd
        rw [hd]
        simp only [Option.some.injEq] at hg; subst hg
        cases want <;> rfl
    · rename_i hoj
      have hoj' : ops[j]? = none := by simpa using hoj
      rw [hoj']
      simp only [Option.some.injEq] at hg; subst hg
      cases want <;> rfl
def CallOk (P : Program) (B0 : Zn) (w0 : World) (call : FuncId → List Value → AW → Option (Value × AW)) : Prop :=
  ∀ f args h v h', call f args h = some (v, h') → ((∃ fn c, P.funcs[f]? = some fn ∧ fn.body = some c ∧ (fn.name == "runtime.NumGoroutine") = false) ∧
    ∀ (φ : Map) (w : World) (args' : List Value), LRel φ args args' → HRel B0 w0 φ h w → Glob P φ →
      Calls P f ⟨args'⟩ w fun e w' => ∃ ψ v', φ.le ψ ∧ e = .returned v' ∧ VRel ψ v v' ∧ HRel B0 w0 ψ h' w') ∨
    (((∀ b, v ≠ .bool b) ∧ hasBody P f = false) ∧ ∀ (φ : Map) (w : World) (args' : List Value), LRel φ args args' → HRel B0 w0 φ h w → ∃ ψ v' w', φ.le ψ ∧ VRel ψ v v' ∧ HRel B0 w0 ψ h' w' ∧ (callFunc f ⟨args'⟩).run P w = .ok (.value v') w')
theorem step_ok {call : FuncId → List Value → AW → Option (Value × AW)} (hcall : CallOk P B0 w0 call) {ops : Array Oper} {o : Oper} {F F' : Fr} {a : Act} (hok : operandsOk P.globals.size o.op.operands.toList = true)
    (hF : FRel φ F a) (H : HRel B0 w0 φ h w) (hG : Glob P φ) (hs : stepOp P call ops.toList o F h = some (F', h')) (K : Act → World → Prop) (Q : Exit → Act → World → Prop)
    (hK : ∀ ψ a' w', φ.le ψ → FRel ψ F' a' → HRel B0 w0 ψ h' w' → GrdLe P a'.defers a.defers → K a' w') :
    if Region.wanted o (yielded ops a.tmps) then o.wp P a w K Q else K (a.put o.dst undef) w := by
  have hdef : ∀ d v, (a.put d v).defers = a.defers := fun d v => by cases d <;> rfl
  unfold stepOp at hs
  split at hs
  · rename_i hg
    rw [guard_ok hF hg, if_pos rfl]
    split at hs
    · rename_i v h2 hv
      split at hs
      · rename_i F2 hput
        simp only [Option.some.injEq, Prod.mk.injEq] at hs
        obtain ⟨rfl, rfl⟩ := hs
        split at hv
        · rename_i f args ats hop
          split at hv
          · rename_i fid cargs ht
            unfold target at ht
            simp only at ht
            split at ht
            · rename_i f' first captured hfe
              simp only [Option.some.injEq, Prod.mk.injEq] at ht
              obtain ⟨rfl, rfl⟩ := ht
              rw [hop] at hok
              have hf := ev_ok hF hG (operandsOk_spec hok f (by simp [Op.operands, Call.operands]))
              rw [hfe] at hf
              obtain ⟨first', captured', hfc, hl1, hl2⟩ := hf.func_inv
              have hargs : LRel φ (vals F args) (args.map a.eval).toList := by
                rw [Array.toList_map]
                exact L2.self_map fun x hx => ev_ok hF hG (operandsOk_spec hok x (by simp [Op.operands, Call.operands]; exact .inr (by simpa using hx)))
              have hall : LRel φ (first.toList ++ (vals F args ++ captured.toList)) (first'.toList ++ ((args.map a.eval).toList ++ captured'.toList)) := hl1.append (hargs.append hl2)
              rcases hcall _ _ _ _ _ hv with ⟨⟨fn, c, hfn, hbody, hname⟩, hcalls⟩ | ⟨_, hext⟩
              rotate_left
              · obtain ⟨ψ, x', w', hle, hx, H', hext⟩ := hext φ w _ hall H
                have harr : (first' ++ args.map a.eval ++ captured' : Array Value) = ⟨first'.toList ++ ((args.map a.eval).toList ++ captured'.toList)⟩ := by
                  apply Array.ext'; simp
                have hrun : (execOp a.eval o).run P w = .ok (.value x') w' := by
                  simp only [execOp, hop, resolve, hfc, Deferred.ofValue, Sem.run_bind, Sem.run_pure, Result.andThen_ok, invoke, harr, hext]
                unfold Oper.wp
                rw [hrun, Oper.upon_value]
                exact hK ψ _ w' hle (put_ok (hF.mono hle) hput hx) H' (.of_eq (hdef _ _))
              have hC := hcalls φ w _ hall H hG
              have hrun : (execOp a.eval o).run P w = .ok (.enter f' ⟨first'.toList ++ ((args.map a.eval).toList ++ captured'.toList)⟩) w := by
                have harr : (first' ++ args.map a.eval ++ captured' : Array Value) = ⟨first'.toList ++ ((args.map a.eval).toList ++ captured'.toList)⟩ := by
                  apply Array.ext'; simp
                simp only [execOp, hop, resolve, hfc, Deferred.ofValue, Sem.run_bind, Sem.run_pure, Result.andThen_ok, invoke, callFunc, run_program, hfn, hname, Bool.false_eq_true, if_false, hbody, Option.isNone_some, harr]
              unfold Oper.wp
              rw [hrun, Oper.upon_enter]
              refine hC.mono fun e w' he => ?_
              obtain ⟨ψ, v', hle, rfl, hvr, H'⟩ := he
              exact hK ψ _ w' hle (put_ok (hF.mono hle) hput hvr) H' (.of_eq (hdef _ _))
            · cases ht
          · cases hv
        · rename_i hncall
          by_cases hdf : ∃ c, o.op = .defer c
          · obtain ⟨c, hop⟩ := hdf
            rw [hop] at hv
            unfold opD at hv
            simp only at hv
            split at hv
            rotate_left
            · cases hv
            rename_i hdb
            simp only [Option.some.injEq, Prod.mk.injEq] at hv
            obtain ⟨rfl, rfl⟩ := hv
            unfold deferB at hdb
            split at hdb
            rotate_left
            · cases hdb
            rename_i f hcal
            split at hdb
            rotate_left
            · cases hdb
            rename_i g first captured hfe
            rw [hop] at hok
            have hf := ev_ok hF hG (operandsOk_spec hok f (by simp [Op.operands, Call.operands, hcal]))
            rw [hfe] at hf
            obtain ⟨first', captured', hfc, hl1, hl2⟩ := hf.func_inv
            have hrun : (execOp a.eval o).run P w = .ok (.defer { target := .fn (.func g) captured', args := first' ++ c.args.map a.eval }) w := by
              simp only [execOp, hop, resolve, hcal, hfc, Deferred.ofValue, Sem.run_bind, Sem.run_pure, Result.andThen_ok]
            unfold Oper.wp
            rw [hrun, Oper.upon_defer]
            have hF2 : FRel φ F ({ a with defers := { target := .fn (.func g) captured', args := first' ++ c.args.map a.eval } :: a.defers }) := hF
            refine hK φ _ w φ.le_refl (put_ok hF2 hput VRel.undef) H ⟨[{ target := .fn (.func g) captured', args := first' ++ c.args.map a.eval }], ?_, ?_⟩
            · cases o.dst <;> rfl
            · intro d hd
              simp at hd
              subst hd
              exact ⟨g, captured', rfl, hdb⟩
          have hv : opV P F h o.op = some (v, h2) := by
            unfold opD at hv
            split at hv
            · rename_i c hop; exact absurd ⟨c, hop⟩ hdf
            · exact hv
          obtain ⟨ψ, v', w', hgives, hle, hvr, H'⟩ := opV_ok H (rev_ok hF hG hok) hv
          have hfin := hK ψ (a.put o.dst v') w' hle (put_ok (hF.mono hle) hput hvr) H' (.of_eq (hdef _ _))
          unfold Oper.wp
          rcases hgives with hg1 | ⟨rfl, hg1⟩
          · rw [hg1, Oper.upon_value]; exact hfin
          · rw [hg1, Oper.upon_skip]; exact hfin
      · cases hs
    · cases hs
  · rename_i hg
    rw [guard_ok hF hg, if_neg (by simp)]
    split at hs
    · rename_i F2 hput
      simp only [Option.some.injEq, Prod.mk.injEq] at hs
      obtain ⟨rfl, rfl⟩ := hs
      exact hK φ _ w φ.le_refl (put_ok hF hput VRel.undef) H (.of_eq (hdef _ _))
    · cases hs
  · cases hs
theorem runOps_ok {call : FuncId → List Value → AW → Option (Value × AW)} (hcall : CallOk P B0 w0 call) {ops : Array Oper} (hok : opersOk P.globals.size ops.toList = true) {Q : Exit → Act → World → Prop} :
    ∀ (l : List Oper) (k : Nat) (φ : Map) (F F' : Fr) (h h' : AW) (a : Act) (w : World), (∀ i, l[i]? = ops[k + i]?) → runOps P call ops.toList l F h = some (F', h') → FRel φ F a → HRel B0 w0 φ h w → Glob P φ →
      (∀ ψ a' w', φ.le ψ → FRel ψ F' a' → HRel B0 w0 ψ h' w' → GrdLe P a'.defers a.defers → Q .normal a' w') → wpOps P ops Q (List.range' k l.length) a w
  | [], k, φ, F, F', h, h', a, w, _, hr, hF, H, hG, hQ => by
    simp only [runOps, Option.some.injEq, Prod.mk.injEq] at hr
    obtain ⟨rfl, rfl⟩ := hr
    exact hQ φ a w φ.le_refl hF H .refl
  | o :: l, k, φ, F, F', h, h', a, w, hl, hr, hF, H, hG, hQ => by
    simp only [runOps] at hr
    split at hr
    · rename_i F1 h1 hs
      have hk : ops[k]? = some o := by have := hl 0; simpa using this.symm
      have hmem : o ∈ ops.toList := by
        have : ops.toList[k]? = some o := by simpa using hk
        exact List.mem_of_getElem? this
      have := step_ok hcall (ops := ops) (opersOk_spec hok o hmem) hF H hG hs (wpOps P ops Q (List.range' (k + 1) l.length)) Q
        (fun ψ a' w' hle hF' H' hd => runOps_ok hcall hok l (k + 1) ψ F1 F' h1 h' a' w' (fun i => by have := hl (i + 1); rw [show k + 1 + i = k + (i + 1) from by omega]; simpa using this) hr hF' H' (hG.mono hle)
          (fun ψ' a'' w'' hle' hF'' H'' hd' => hQ ψ' a'' w'' (Map.le_trans hle hle') hF'' H'' (hd'.trans hd)))
      rw [List.length_cons, List.range'_succ]
      simp only [wpOps, hk]
      split at this
      · rename_i hw
        rw [if_pos hw]
        exact .inl this
      · rename_i hw
        rw [if_neg hw]
        exact this
    · cases hr
def Ex.toExit : Ex → Exit
  | .normal => .normal
  | .exit id => .exit id
  | .ret => .ret
def DrawnOk (P : Program) (B0 : Zn) (w0 : World) (call : FuncId → List Value → AW → Option (Value × AW)) : Prop :=
  ∀ (ops : Array Oper) (F F' : Fr) (h h' : AW), runDrawn P call ops F h = some (F', h') → opersOk P.globals.size ops.toList = true → P.follows .mixedOrders = true →
    ∀ (φ : Map) (a : Act) (w : World), FRel φ F a → HRel B0 w0 φ h w → Glob P φ → ∀ (id : Nat) (Q : Exit → Act → World → Prop),
      (∀ ψ a' w', φ.le ψ → FRel ψ F' a' → HRel B0 w0 ψ h' w' → a'.defers = a.defers → Q .normal a' w') → (Code.region id ops true).wp P Q a w
theorem HRel.skip (H : HRel B0 w0 φ h w) (x : Obj) : HRel ⟨B0.R, fun k => B0.Z k ∨ k = w.heap.size, fun k e => .inl (B0.sub k e)⟩ (w.alloc x) φ h (w.alloc x) := by
  refine ⟨fun k hk => ?_, BelowZ.refl _ _, H.dom, fun i o y ho hy => ?_, fun i o ho => ?_, H.fam, H.sep, H.ty.same (Cast.alloc _ _) rfl (Nat.le_refl _)⟩
  · rcases hk with hk | rfl
    · have := H.inn k hk; simp; omega
    · simp
  · have := H.lto i o y ho hy; simp; omega
  · obtain ⟨b, σ, κ, hp, hr⟩ := H.obj i o ho
    have hlt := H.lt ho hp
    have hr := hr.same (w' := w.alloc x) (by simp only [World.alloc, Array.getElem?_push]; rw [if_neg (Nat.ne_of_lt hlt)])
    refine ⟨b, σ, κ, hp, ?_⟩
    cases o with
    | var cs n ro =>
      obtain ⟨a1, a2, a3, a4, a5⟩ := hr
      exact ⟨a1, a2, a3, fun e => ⟨fun hz => hz.elim (a4 e).1 (Nat.ne_of_lt hlt), (a4 e).2⟩, a5⟩
    | row f g lo hi sz cs =>
      intro fm h2 h3
      obtain ⟨a1, a2⟩ := hr fm h2 h3
      exact ⟨fun hz => hz.elim a1 (Nat.ne_of_lt hlt), a2⟩
    | map es =>
      obtain ⟨a1, a2, a3, a4⟩ := hr
      exact ⟨a1, a2, fun hz => hz.elim a3 (Nat.ne_of_lt hlt), a4⟩
theorem put_comm {a : Act} {d : Option Tmp} {dz : Tmp} {v vz : Value} (h : d ≠ some dz) : (a.put (some dz) vz).put d v = (a.put d v).put (some dz) vz := by
  cases d with
  | none => rfl
  | some d =>
    have hne : dz ≠ d := fun e => h (by rw [e])
    simp only [Act.put]
    rw [Array.setIfInBounds_comm _ _ hne]
structure Ext (B0 : Zn) (w0 : World) (B1 : Zn) (w1 : World) : Prop where
  z : ∀ k, B0.Z k → B1.Z k
  r : ∀ k, B1.R k → B0.R k
  base : ∀ k, B0.Z k → k < w0.heap.size
  below : BelowZ B0 w0 w1
theorem Ext.refl (H : HRel B0 w0 φ h w) : Ext B0 w0 B0 w0 := ⟨fun _ h => h, fun _ h => h, H.base, BelowZ.refl _ _⟩
theorem BelowZ.part {B0 B1 : Zn} {w1 w2 : World} (hz : ∀ k, B0.Z k → B1.Z k) (h : BelowZ B1 w1 w2) : BelowZ B0 w1 w2 := ⟨h.os, h.tape, h.output, h.size, fun k hk => h.block k (hz k hk)⟩
theorem Ext.trans {B1 B2 : Zn} {w1 w2 : World} (e : Ext B0 w0 B1 w1) (f : Ext B1 w1 B2 w2) : Ext B0 w0 B2 w2 :=
  ⟨fun k hk => f.z k (e.z k hk), fun k hk => e.r k (f.r k hk), e.base, e.below.trans (f.below.part e.z)⟩
def marks (ds : List Deferred) : List Nat := ds.filterMap fun d => match d.target with | .collected r => some r | _ => none
def MarkD (B0 B1 : Zn) (w : World) (d : Deferred) : Prop := ∃ r, d.target = .collected r ∧ ¬ B0.Z r ∧ B1.Z r ∧ w.heap[r]? = some (.deferred (some []))
def DfLe (P : Program) (B0 B1 : Zn) (w1 : World) (new old : List Deferred) : Prop := ∃ ds, new = ds ++ old ∧ (∀ d, d ∈ ds → GuardD P d ∨ MarkD B0 B1 w1 d) ∧ (marks ds).Nodup
theorem marks_grd : ∀ {ds : List Deferred}, (∀ d, d ∈ ds → GuardD P d) → marks ds = []
  | [], _ => rfl
  | d :: ds, h => by
    obtain ⟨g, cap, e, _⟩ := h d (by simp)
    have ih := marks_grd (ds := ds) fun d' hd => h d' (List.mem_cons_of_mem _ hd)
    unfold marks at ih ⊢
    rw [List.filterMap_cons, e]
    exact ih
theorem DfLe.of_grd {x y : List Deferred} (g : GrdLe P x y) : DfLe P B0 B0 w x y := by
  obtain ⟨ds, e, hg⟩ := g
  exact ⟨ds, e, fun d hd => .inl (hg d hd), by rw [marks_grd hg]; exact List.nodup_nil⟩
theorem marks_mem {ds : List Deferred} {r : Nat} (h : r ∈ marks ds) : ∃ d, d ∈ ds ∧ d.target = .collected r := by
  unfold marks at h
  obtain ⟨d, hd, e⟩ := List.mem_filterMap.1 h
  refine ⟨d, hd, ?_⟩
  split at e
  · rename_i r' ht; rw [ht]; cases e; rfl
  · cases e
theorem DfLe.trans {B1 B2 : Zn} {w1 w2 : World} {x y z : List Deferred} (h2 : DfLe P B1 B2 w2 z y) (e : Ext B0 w0 B1 w1) (f : Ext B1 w1 B2 w2) (h1 : DfLe P B0 B1 w1 y x) : DfLe P B0 B2 w2 z x := by
  obtain ⟨d2, rfl, g2, n2⟩ := h2
  obtain ⟨d1, rfl, g1, n1⟩ := h1
  refine ⟨d2 ++ d1, by simp, fun d hd => ?_, ?_⟩
  · rcases List.mem_append.1 hd with hd | hd
    · exact (g2 d hd).imp id fun ⟨r, a, b, c, k⟩ => ⟨r, a, fun hz => b (e.z _ hz), c, k⟩
    · exact (g1 d hd).imp id fun ⟨r, a, b, c, k⟩ => ⟨r, a, b, f.z _ c, by rw [f.below.block r c]; exact k⟩
  · unfold marks at *
    rw [List.filterMap_append, List.nodup_append]
    refine ⟨n2, n1, fun r hr r' hr' => ?_⟩
    rintro rfl
    obtain ⟨a, ha, ea⟩ := marks_mem hr
    obtain ⟨b, hb, eb⟩ := marks_mem hr'
    rcases g2 a ha with ⟨_, _, x, _⟩ | ⟨r1, x, y, _⟩
    · rw [ea] at x; cases x
    · rw [ea] at x; cases x
      rcases g1 b hb with ⟨_, _, x, _⟩ | ⟨r2, x, _, y2, _⟩
      · rw [eb] at x; cases x
      · rw [eb] at x; cases x
        exact y y2
def OddB (w : World) (k : Nat) : Prop := (∃ r, w.heap[k]? = some (.loop r)) ∨ ∃ d, w.heap[k]? = some (.deferred d)
theorem HRel.rebase {B1 B2 : Zn} {w1 w2 w' : World} {S : Nat → Prop} (H : HRel B1 w1 φ h w) (hbase : ∀ k, B2.Z k → k < w2.heap.size) (hz : ∀ k, B2.Z k → B1.Z k) (hr : ∀ k, B1.R k → B2.R k) (hbelow : BelowZ B2 w2 w')
    (hS : ∀ k, S k → B1.Z k ∧ ¬ B1.R k ∧ OddB w k) (hsz : w'.heap.size = w.heap.size) (hne : ∀ k, ¬ S k → w'.heap[k]? = w.heap[k]?) : HRel B2 w2 φ h w' := by
  refine ⟨hbase, hbelow, H.dom, fun i o x ho hx => by rw [hsz]; exact H.lto i o x ho hx, fun i o ho => ?_, H.fam, H.sep, H.ty.same ⟨fun b c t fz hc => ⟨c, fz, ?_⟩, fun b hc => ?_, fun b hx => hx.keep fun e n hc => ?_⟩ rfl (Nat.le_refl _)⟩
  · obtain ⟨b, σ, κ, hp, hR⟩ := H.obj i o ho
    refine ⟨b, σ, κ, hp, ?_⟩
    cases o with
    | var cs n ro =>
      cases ro with
      | false =>
        have hb : ¬ B1.Z b := (hR.2.2.2.1 rfl).1
        obtain ⟨a1, a2, a3, a4, a5⟩ := hR.same (w' := w') (hne b fun hs => hb (hS b hs).1)
        exact ⟨a1, a2, a3, fun e => ⟨fun hz2 => hb (hz b hz2), (a4 e).2⟩, fun e => by cases e⟩
      | true =>
        rcases hR.2.2.2.2 rfl with hb | hn
        · obtain ⟨a1, a2, a3, a4, a5⟩ := hR.same (w' := w') (hne b fun hs => (hS b hs).2.1 hb)
          exact ⟨a1, a2, a3, fun e => (by cases e), fun _ => .inl (hr b hb)⟩
        · exact ⟨hR.1, hR.2.1, fun k x hk => by omega, fun e => (by cases e), fun _ => .inr hn⟩
    | row f g lo hi sz cs =>
      intro fm hf hg
      have hb : ¬ B1.Z b := (hR fm hf hg).1
      have := (hR.same (w' := w') (hne b fun hs => hb (hS b hs).1)) fm hf hg
      exact ⟨fun hz2 => hb (hz b hz2), this.2⟩
    | map es =>
      have hb : ¬ B1.Z b := hR.2.2.1
      have := hR.same (w' := w') (hne b fun hs => hb (hS b hs).1)
      exact ⟨this.1, this.2.1, fun hz2 => hb (hz b hz2), this.2.2.2⟩
  · rw [hne b fun hs => by rcases (hS b hs).2.2 with ⟨r, e⟩ | ⟨r, e⟩ <;> (rw [hc] at e; cases e)]
    exact hc
  · rw [hne b fun hs => by rcases (hS b hs).2.2 with ⟨r, e⟩ | ⟨r, e⟩ <;> (rw [hc] at e; cases e)]
    exact hc
  · rw [hne b fun hs => by rcases (hS b hs).2.2 with ⟨r, e⟩ | ⟨r, e⟩ <;> (rw [hc] at e; cases e)]
    exact hc
theorem overF_spec {F : Fr} {g : Operand} {f : FuncId} {args : List Value} (ht : overF F g = some (f, args)) : ∃ first captured, F.ev g = .func (.func f) first captured ∧ args = first.toList ++ ([.chan none] ++ captured.toList) := by
  unfold overF target at ht
  simp only at ht
  split at ht
  · rename_i f' first captured hfe
    simp only [Option.some.injEq, Prod.mk.injEq] at ht
    obtain ⟨rfl, rfl⟩ := ht
    exact ⟨first, captured, hfe, rfl⟩
  · cases ht
theorem range_ok {call : FuncId → List Value → AW → Option (Value × AW)} (hcall : ∀ B0 w0, CallOk P B0 w0 call) {g : Operand} {ps : Array Tmp} {x y : Code} (hok : operandOk P.globals.size g = true) {F : Fr} {f : FuncId} {args : List Value} {v : Value} {h1 : AW}
    (ht : overF F g = some (f, args)) (hb : hasBody P f = true) (hc : call f args h = some (v, h1)) {a : Act} (hF : FRel φ F a) (H : HRel B0 w0 φ h w) (hG : Glob P φ) (Q : Exit → Act → World → Prop)
    (hQ : ∀ ψ a' w' B1 w1, φ.le ψ → FRel ψ F a' → HRel B1 w1 ψ h1 w' → Ext B0 w0 B1 w1 → DfLe P B0 B1 w1 a'.defers a.defers → Q Ex.normal.toExit a' w') : (Code.rangeFunc g ps x y).wp P Q a w := by
  obtain ⟨first, captured, hfe, rfl⟩ := overF_spec ht
  have hf := ev_ok hF hG hok
  rw [hfe] at hf
  obtain ⟨first', captured', hfc, hl1, hl2⟩ := hf.func_inv
  refine wpIn_wide (n := 0) |>.1 (wpIn_rangeFunc fun fnid _ => ?_)
  let o1 : Obj := .deferred (some [])
  let rec0 : Loop := { state := .ready, pending := none, fn := fnid, tmps := a.tmps, params := ps, assign := x, body := y, defers := w.heap.size }
  let W1 : World := (w.alloc o1).alloc (.loop rec0)
  have H1 := (H.skip o1).skip (.loop rec0)
  have hs1 : (w.alloc o1).heap.size = w.heap.size + 1 := by show (w.heap.push o1).size = _; simp
  have hall : LRel φ (first.toList ++ ([.chan none] ++ captured.toList)) (first'.toList ++ ([Value.func (.yield (w.heap.size + 1)) #[] #[]] ++ captured'.toList)) := hl1.append ((L2.cons (.yield _) L2.nil).append hl2)
  rcases hcall _ _ _ _ _ _ _ hc with ⟨⟨fn, c, hfn, hbody, hname⟩, hcalls⟩ | ⟨⟨_, hnb⟩, _⟩
  rotate_left
  · rw [hb] at hnb; cases hnb
  have hC := hcalls φ W1 _ hall H1 hG
  have harr : (first' ++ #[Value.func (.yield (w.heap.size + 1)) #[] #[]] ++ captured' : Array Value) = ⟨first'.toList ++ ([Value.func (.yield (w.heap.size + 1)) #[] #[]] ++ captured'.toList)⟩ := by
    apply Array.ext'; simp
  refine ⟨w.heap.size + 1, [{ target := .collected w.heap.size, args := #[] }], W1, { target := .fn (.func f) captured', args := first' ++ #[Value.func (.yield (w.heap.size + 1)) #[] #[]] }, W1, f, _, W1, run_enterLoop_outer _ _ _ _ _, ?_, fun _ _ => trivial, ?_, (fun e => by cases e), callsIn_wide.2 (hC.mono fun e w3 he => ?_)⟩
  · simp only [resolve, rangeCall, hfc, Deferred.ofValue, Sem.run_bind, Sem.run_pure, Result.andThen_ok]
    rw [show Array.map a.eval #[Operand.const (Value.func (.yield (w.heap.size + 1)) #[] #[])] = #[Value.func (.yield (w.heap.size + 1)) #[] #[]] from by simp [Act.eval]]
  · simp only [invoke, harr, callFunc, Sem.run_bind, run_program, Result.andThen_ok, hfn, hname, Bool.false_eq_true, if_false, hbody, Option.isNone_some, Sem.run_pure]
  · obtain ⟨ψ, v', hle, rfl, hv, H3⟩ := he
    have hl : w3.heap[w.heap.size + 1]? = some (.loop rec0) := by
      rw [H3.below.block (w.heap.size + 1) (.inr hs1.symm), ← hs1]
      exact World.alloc_heap_new _ _
    have hd : w3.heap[w.heap.size]? = some (.deferred (some [])) := by
      rw [H3.below.block w.heap.size (.inl (.inr rfl))]
      show (((w.heap.push o1).push (.loop rec0)))[w.heap.size]? = _
      rw [Array.getElem?_push, if_neg (by simp), Array.getElem?_push, if_pos rfl]
    refine ⟨none, w3.putObj (w.heap.size + 1) (.loop { rec0 with state := .exhausted }), run_endLoop hl (by simp [rec0]), ?_⟩
    have hlt3 : w.heap.size + 1 < w3.heap.size := (Array.getElem?_eq_some_iff.1 hl).1
    have hzl : ¬ B0.Z (w.heap.size + 1) := fun hz => by have := H.inn _ hz; omega
    have hzd : ¬ B0.Z w.heap.size := H.newZ
    have hb03 : BelowZ B0 w0 w3 := (H.below.trans (BelowZ.refl B0 w |>.alloc H.inn o1 |>.alloc (fun k hk => by rw [hs1]; have := H.inn _ hk; omega) (.loop rec0))).trans (H3.below.part fun k hk => by exact Or.inl (Or.inl hk))
    let w4 : World := w3.putObj (w.heap.size + 1) (.loop { rec0 with state := .exhausted })
    have hne4 : ∀ k, k ≠ w.heap.size + 1 → w4.heap[k]? = w3.heap[k]? := fun k hk => World.putObj_heap_other hk
    let B2 : Zn := ⟨B0.R, fun k => B0.Z k ∨ k = w.heap.size, fun k e => .inl (B0.sub k e)⟩
    have hb2 : ∀ k, B2.Z k → k < w4.heap.size := fun k hk => by
      have e4 : w4.heap.size = w3.heap.size := World.putObj_size
      rw [e4]
      rcases hk with hk | rfl
      · have := H.inn _ hk; omega
      · omega
    have H4 : HRel B2 w4 ψ h1 w4 := H3.rebase (S := fun k => k = w.heap.size + 1) hb2 (fun k hk => by exact Or.inl hk) (fun k hk => hk) (BelowZ.refl _ _)
      (fun k hk => by subst hk; exact ⟨Or.inr hs1.symm, fun hr => hzl (B0.sub _ hr), .inl ⟨_, hl⟩⟩) World.putObj_size hne4
    have hb04 : BelowZ B0 w0 w4 := hb03.trans ⟨rfl, rfl, rfl, Nat.le_of_eq World.putObj_size.symm, fun k hk => hne4 k fun e => hzl (e ▸ hk)⟩
    refine hQ ψ _ w4 B2 w4 hle ⟨hF.1, fun t => (hF.2 t).mono hle⟩ H4 ⟨fun k hk => .inl hk, fun k hk => hk, H.base, hb04⟩ ⟨[{ target := .collected w.heap.size, args := #[] }], rfl, fun d hd' => ?_, by simp [marks]⟩
    simp only [List.mem_singleton] at hd'
    subst hd'
    exact .inr ⟨_, rfl, hzd, .inr rfl, by rw [hne4 _ (by omega)]; exact hd⟩
theorem run_ok {call : FuncId → List Value → AW → Option (Value × AW)} (hcall : ∀ B0 w0, CallOk P B0 w0 call) (hdrawn : ∀ B0 w0, DrawnOk P B0 w0 call) (hmix : P.follows .mixedOrders = true) : ∀ (n : Nat),
    (∀ (c : Code) (F F' : Fr) (h h' : AW) (e : Ex), run P call n c F h = some (e, F', h') → codeOk P.globals.size c = true → ∀ (B0 : Zn) (w0 : World) (φ : Map) (a : Act) (w : World), FRel φ F a → HRel B0 w0 φ h w → Glob P φ →
      ∀ (Q : Exit → Act → World → Prop), (∀ ψ a' w' B1 w1, φ.le ψ → FRel ψ F' a' → HRel B1 w1 ψ h' w' → Ext B0 w0 B1 w1 → DfLe P B0 B1 w1 a'.defers a.defers → Q e.toExit a' w') → c.wp P Q a w) ∧
    (∀ (b : Code) (F F' : Fr) (h h' : AW) (e : Ex), run P call n (.loop b) F h = some (e, F', h') → codeOk P.globals.size b = true → ∀ (B0 : Zn) (w0 : World) (φ : Map) (a : Act) (w : World), FRel φ F a → HRel B0 w0 φ h w → Glob P φ →
      ∀ (Q : Exit → Act → World → Prop), (∀ ψ a' w' B1 w1, φ.le ψ → FRel ψ F' a' → HRel B1 w1 ψ h' w' → Ext B0 w0 B1 w1 → DfLe P B0 B1 w1 a'.defers a.defers → Q e.toExit a' w') → Code.rounds P b Q n a w) := by
  intro n
  induction n with
  | zero => exact ⟨fun c F F' h h' e hr => by simp [run] at hr, fun b F F' h h' e hr => by simp [run] at hr⟩
  | succ n ih =>
    obtain ⟨ihA, ihB⟩ := ih
    have B : ∀ (b : Code) (F F' : Fr) (h h' : AW) (e : Ex), run P call (n + 1) (.loop b) F h = some (e, F', h') → codeOk P.globals.size b = true → ∀ (B0 : Zn) (w0 : World) (φ : Map) (a : Act) (w : World), FRel φ F a → HRel B0 w0 φ h w → Glob P φ →
      ∀ (Q : Exit → Act → World → Prop), (∀ ψ a' w' B1 w1, φ.le ψ → FRel ψ F' a' → HRel B1 w1 ψ h' w' → Ext B0 w0 B1 w1 → DfLe P B0 B1 w1 a'.defers a.defers → Q e.toExit a' w') → Code.rounds P b Q (n + 1) a w := by
      intro b F F' h h' e hr hok B0 w0 φ a w hF H hG Q hQ
      rw [rounds_succ]
      simp only [run] at hr
      split at hr
      · rename_i F1 h1 hb
        refine ihA b F F1 h h1 .normal hb hok B0 w0 φ a w hF H hG _ (fun ψ a' w' B1 w1 hle hF' H' hex hd => ?_)
        exact ihB b F1 F' h1 h' e hr hok B1 w1 ψ a' w' hF' H' (hG.mono hle) Q (fun ψ' a'' w'' B2 w2 hle' hF'' H'' hex' hd' => hQ ψ' a'' w'' B2 w2 (Map.le_trans hle hle') hF'' H'' (hex.trans hex') (hd'.trans hex hex' hd))
      · rename_i hnn
        refine ihA b F F' h h' e hr hok B0 w0 φ a w hF H hG _ (fun ψ a' w' B1 w1 hle hF' H' hex hd => ?_)
        have hq := hQ ψ a' w' B1 w1 hle hF' H' hex hd
        cases e with
        | normal => exact absurd hr (hnn F' h')
        | exit id => exact hq
        | ret => exact hq
    refine ⟨?_, B⟩
    intro c F F' h h' e hr hok B0 w0 φ a w hF H hG Q hQ
    cases c with
    | skip =>
      simp only [run, Option.some.injEq, Prod.mk.injEq] at hr
      obtain ⟨rfl, rfl, rfl⟩ := hr
      exact wp_skip (hQ φ a w B0 w0 φ.le_refl hF H (.refl H) (.of_grd .refl))
    | label l =>
      simp only [run, Option.some.injEq, Prod.mk.injEq] at hr
      obtain ⟨rfl, rfl, rfl⟩ := hr
      exact wp_label (hQ φ a w B0 w0 φ.le_refl hF H (.refl H) (.of_grd .refl))
    | region id ops draw =>
      simp only [run] at hr
      cases draw with
      | false =>
        simp only at hr
        split at hr
        · rename_i F1 h1 hops
          simp only [Option.some.injEq, Prod.mk.injEq] at hr
          obtain ⟨rfl, rfl, rfl⟩ := hr
          have := runOps_ok (hcall B0 w0) (ops := ops) (by simpa [codeOk] using hok) (Q := Q) ops.toList 0 φ F F1 h h1 a w (fun i => by simp) hops hF H hG (fun ψ a' w' hle hF' H' hd => hQ ψ a' w' B0 w0 hle hF' H' (.refl H) (.of_grd hd))
          rw [Array.length_toList, ← List.range_eq_range'] at this
          exact wp_region this
        · cases hr
      | true =>
        simp only at hr
        split at hr
        · rename_i F1 h1 hops
          simp only [Option.some.injEq, Prod.mk.injEq] at hr
          obtain ⟨rfl, rfl, rfl⟩ := hr
          exact hdrawn B0 w0 ops F F1 h h1 hops (by simpa [codeOk] using hok) hmix φ a w hF H hG id Q fun ψ a' w' hle hF' H' hd => hQ ψ a' w' B0 w0 hle hF' H' (.refl H) (.of_grd (.of_eq hd))
        · cases hr
    | seq x y =>
      simp only [codeOk, Bool.and_eq_true] at hok
      simp only [run] at hr
      refine wp_seq ?_
      split at hr
      · rename_i F1 h1 hx
        refine ihA x F F1 h h1 .normal hx hok.1 B0 w0 φ a w hF H hG _ (fun ψ a' w' B1 w1 hle hF' H' hex hd => ?_)
        exact ihA y F1 F' h1 h' e hr hok.2 B1 w1 ψ a' w' hF' H' (hG.mono hle) Q (fun ψ' a'' w'' B2 w2 hle' hF'' H'' hex' hd' => hQ ψ' a'' w'' B2 w2 (Map.le_trans hle hle') hF'' H'' (hex.trans hex') (hd'.trans hex hex' hd))
      · rename_i hnn
        refine ihA x F F' h h' e hr hok.1 B0 w0 φ a w hF H hG _ (fun ψ a' w' B1 w1 hle hF' H' hex hd => ?_)
        have hq := hQ ψ a' w' B1 w1 hle hF' H' hex hd
        cases e with
        | normal => exact absurd hr (hnn F' h')
        | exit id => exact hq
        | ret => exact hq
    | cond x y z =>
      simp only [codeOk, Bool.and_eq_true] at hok
      simp only [run] at hr
      have hx := ev_ok hF hG hok.1.1
      split at hr
      · rename_i he
        rw [he] at hx
        exact wp_cond_true hx.bool_inv (ihA y F F' h h' e hr hok.1.2 B0 w0 φ a w hF H hG Q hQ)
      · rename_i he
        rw [he] at hx
        exact wp_cond_false hx.bool_inv (ihA z F F' h h' e hr hok.2 B0 w0 φ a w hF H hG Q hQ)
      · cases hr
    | block id b =>
      simp only [codeOk] at hok
      simp only [run] at hr
      refine wp_block ?_
      split at hr
      · rename_i j F1 h1 hb
        split at hr
        · rename_i hj
          have := beq_true hj
          subst this
          simp only [Option.some.injEq, Prod.mk.injEq] at hr
          obtain ⟨rfl, rfl, rfl⟩ := hr
          refine ihA b F F1 h h1 (.exit j) hb hok B0 w0 φ a w hF H hG _ (fun ψ a' w' B1 w1 hle hF' H' hex hd => ?_)
          have hq := hQ ψ a' w' B1 w1 hle hF' H' hex hd
          simp only [Ex.toExit, Exit.inBlock, if_true]
          exact hq
        · rename_i hj
          simp only [Option.some.injEq, Prod.mk.injEq] at hr
          obtain ⟨rfl, rfl, rfl⟩ := hr
          refine ihA b F F1 h h1 (.exit j) hb hok B0 w0 φ a w hF H hG _ (fun ψ a' w' B1 w1 hle hF' H' hex hd => ?_)
          have hq := hQ ψ a' w' B1 w1 hle hF' H' hex hd
          have hne : j ≠ id := by rintro rfl; rw [Nat.beq_refl] at hj; cases hj
          simp only [Ex.toExit, Exit.inBlock, if_neg hne]
          exact hq
      · rename_i hnn
        refine ihA b F F' h h' e hr hok B0 w0 φ a w hF H hG _ (fun ψ a' w' B1 w1 hle hF' H' hex hd => ?_)
        have hq := hQ ψ a' w' B1 w1 hle hF' H' hex hd
        cases e with
        | normal => exact hq
        | exit id => exact absurd hr (hnn _ F' h')
        | ret => exact hq
    | loop b =>
      simp only [codeOk] at hok
      exact wp_loop_rounds (n + 1) (B b F F' h h' e hr hok B0 w0 φ a w hF H hG Q hQ)
    | exit id =>
      simp only [run, Option.some.injEq, Prod.mk.injEq] at hr
      obtain ⟨rfl, rfl, rfl⟩ := hr
      exact wp_exit (hQ φ a w B0 w0 φ.le_refl hF H (.refl H) (.of_grd .refl))
    | scope b =>
      simp only [codeOk] at hok
      simp only [run] at hr
      refine wp_scope_straight (ihA b F F' h h' e hr hok B0 w0 φ a w hF H hG _ (fun ψ a' w' B1 w1 hle hF' H' hex hd => ?_))
      have hq := hQ ψ a' w' B1 w1 hle hF' H' hex hd
      cases e <;> exact hq
    | ret =>
      simp only [run, Option.some.injEq, Prod.mk.injEq] at hr
      obtain ⟨rfl, rfl, rfl⟩ := hr
      exact wp_ret (hQ φ a w B0 w0 φ.le_refl hF H (.refl H) (.of_grd .refl))
    | rangeFunc g ps x y =>
      simp only [codeOk] at hok
      simp only [run] at hr
      split at hr
      · rename_i f args ht
        split at hr
        · rename_i v h1 hb hc1
          simp only [Option.some.injEq, Prod.mk.injEq] at hr
          obtain ⟨rfl, rfl, rfl⟩ := hr
          exact range_ok hcall hok ht hb hc1 hF H hG Q hQ
        · cases hr
      · cases hr
    | goto l => simp [run] at hr
    | refuse s => simp [run] at hr
theorem loadVar_ok (H : HRel B0 w0 φ h w) {t : TypeId} {x x' v : Value} (hx : VRel φ x x') (hl : loadV P h t x = some v) :
    ∃ v', (do loadVar t (← asAddr x') : Sem Value).run P w = .ok v' w ∧ VRel φ v v' := by
  obtain ⟨v', h1, h2⟩ := loadV_ok (P := P) H hx hl
  refine ⟨v', ?_, h2⟩
  unfold loadV at hl
  split at hl
  · obtain ⟨_, b, σ, κ, hp, hs, rfl⟩ := hx.ptr_inv
    simpa [Instr.loadAt, Instr.sureAddr, asAddr] using h1
  · cases hl
theorem results_ok (H : HRel B0 w0 φ h w) {F : Fr} {a : Act} (hF : FRel φ F a) : ∀ {rs : List ResultVar} {vs : List Value}, resultL P F h rs = some vs →
    ∃ vs', (rs.mapM (fun | .tmp t => pure (a.tmps.getD t undef) | .cell p t => do loadVar t (← asAddr (a.tmps.getD p undef))) : Sem (List Value)).run P w = .ok vs' w ∧ LRel φ vs vs'
  | [], vs, hr => by
    simp only [resultL, Option.some.injEq] at hr; subst hr
    exact ⟨[], rfl, L2.nil⟩
  | r :: rs, vs, hr => by
    simp only [resultL] at hr
    split at hr
    · rename_i v hv
      split at hr
      · rename_i vs2 hvs
        simp only [Option.some.injEq] at hr; subst hr
        obtain ⟨vs', h1, h2⟩ := results_ok H hF hvs
        have one : ∃ v', ((match r with | .tmp t => pure (a.tmps.getD t undef) | .cell p t => do loadVar t (← asAddr (a.tmps.getD p undef)) : Sem Value)).run P w = .ok v' w ∧ VRel φ v v' := by
          cases r with
          | tmp t =>
            simp only [resultV, Option.some.injEq] at hv; subst hv
            exact ⟨_, rfl, hF.2 t⟩
          | cell p t =>
            exact loadVar_ok H (hF.2 p) hv
        obtain ⟨v', h3, h4⟩ := one
        refine ⟨v' :: vs', ?_, L2.cons h4 h2⟩
        rw [List.mapM_cons]
        simp only [Sem.run_bind, h3, Result.andThen_ok, h1, Sem.run_pure]
      · cases hr
    · cases hr
theorem leave_ok {fn : Func} {tmps : Array Value} {R : Ending → World → Prop} {ψ : Map} {h1 : AW} (fin : ∀ W, HRel B0 w0 ψ h1 W → ∃ v, (results fn tmps).run P W = .ok v W ∧ R (.returned v) W) :
    ∀ (ds : List Deferred) (W : World) (B1 : Zn) (w1 : World), HRel B1 w1 ψ h1 W → Ext B0 w0 B1 w1 → (∀ d, d ∈ ds → GuardD P d ∨ MarkD B0 B1 W d) → (marks ds).Nodup → LeavesX P fn tmps R ds .returning W
  | [], W, B1, w1, H, e, _, _ => by
    obtain ⟨v, hr, hR⟩ := fin W (H.rebase (S := fun _ => False) e.base e.z e.r (e.below.trans (H.below.part e.z)) (fun _ h => h.elim) rfl fun _ _ => rfl)
    exact ⟨v, hr, hR⟩
  | d :: ds, W, B1, w1, H, e, hd, hn => by
    have hd' : ∀ x, x ∈ ds → GuardD P x ∨ MarkD B0 B1 W x := fun x hx => hd x (List.mem_cons_of_mem _ hx)
    rcases hd d (List.mem_cons_self ..) with ⟨g, cap, ht, hg⟩ | ⟨r, ht, hz0, hz1, hr⟩
    · have hn' : (marks ds).Nodup := by
        unfold marks at hn ⊢
        rw [List.filterMap_cons, ht] at hn
        exact hn
      obtain ⟨fn', hf, hnm, hb⟩ := guard_name hg
      refine ⟨by simp, .inr ⟨.func g, cap, g, d.args ++ cap, ht, ?_, (guard_calls hg _ W).mono ?_⟩⟩
      · rw [ht]
        simp only [invoke, callFunc, Sem.run_bind, Sem.run_pure, run_program, Result.andThen_ok, hf, hnm, hb, Bool.false_eq_true, if_false]
      · rintro e' u' w' ⟨rfl, rfl, rfl⟩
        exact leave_ok fin ds _ B1 w1 H e hd' hn'
    · have hn2 : r ∉ marks ds ∧ (marks ds).Nodup := by
        unfold marks at hn ⊢
        rw [List.filterMap_cons, ht] at hn
        exact List.nodup_cons.1 hn
      have hlt : r < W.heap.size := (Array.getElem?_eq_some_iff.1 hr).1
      have hne : ∀ k, k ≠ r → (W.putObj r (.deferred none)).heap[k]? = W.heap[k]? := fun k hk => World.putObj_heap_other hk
      have hrR : ∀ k, B1.R k → k ≠ r := fun k hk er => hz0 (B0.sub _ (e.r _ (er ▸ hk)))
      let B2 : Zn := ⟨B1.R, fun k => B1.Z k ∧ k ≠ r, fun k hk => ⟨B1.sub k hk, hrR k hk⟩⟩
      have H2 : HRel B2 (W.putObj r (.deferred none)) ψ h1 (W.putObj r (.deferred none)) := H.rebase (S := fun k => k = r) (fun k hk => by rw [World.putObj_size]; exact H.inn k hk.1) (fun k hk => hk.1) (fun k hk => hk) (BelowZ.refl _ _)
        (fun k hk => by subst hk; exact ⟨hz1, fun hR => hrR _ hR rfl, .inr ⟨_, hr⟩⟩) World.putObj_size hne
      have e2 : Ext B0 w0 B2 (W.putObj r (.deferred none)) := ⟨fun k hk => ⟨e.z k hk, fun er => hz0 (er ▸ hk)⟩, fun k hk => e.r k hk, e.base,
        (e.below.trans (H.below.part e.z)).trans ⟨rfl, rfl, rfl, Nat.le_of_eq World.putObj_size.symm, fun k hk => hne k fun er => hz0 (er ▸ hk)⟩⟩
      refine ⟨by simp, .inl ⟨r, _, ht, run_takeDeferred hr, leave_ok fin ds _ B2 _ H2 e2 (fun x hx => ?_) hn2.2⟩⟩
      rcases hd' x hx with g | ⟨r', ht', z0, z1, hr'⟩
      · exact .inl g
      · have hrr : r' ≠ r := by
          rintro rfl
          refine hn2.1 ?_
          unfold marks
          exact List.mem_filterMap.2 ⟨x, hx, by rw [ht']⟩
        exact .inr ⟨r', ht', z0, ⟨z1, hrr⟩, by rw [hne r' hrr]; exact hr'⟩
theorem body_calls (hdrawn : ∀ (call : FuncId → List Value → AW → Option (Value × AW)), (∀ B0 w0, CallOk P B0 w0 call) → ∀ B0 w0, DrawnOk P B0 w0 call) {n : Nat} (ih : ∀ B0 w0, CallOk P B0 w0 (callF P n)) {f : FuncId} {fn : Func} {c : Code} (hfn : P.funcs[f]? = some fn) (hbody : fn.body = some c) (hcode : codeOk P.globals.size c = true) (hmix : P.follows .mixedOrders = true)
    {args : List Value} {h h1 : AW} {e : Ex} {F1 : Fr} {v : Value} (hrun : run P (callF P n) n c { n := Nat.max args.length fn.ntmps, t := T.ofList args } h = some (e, F1, h1)) (hne : ∀ id, e ≠ .exit id)
    (hres : resultL P F1 h1 fn.results.toList = some [v] ∨ ∃ vs, resultL P F1 h1 fn.results.toList = some vs ∧ (∀ q, vs ≠ [q]) ∧ v = .tuple ⟨vs⟩) (B0 : Zn) (w0 : World) (φ : Map) (w : World) (args' : List Value) (hargs : LRel φ args args') (H : HRel B0 w0 φ h w) (hG : Glob P φ) :
    Calls P f ⟨args'⟩ w fun e w' => ∃ ψ v', φ.le ψ ∧ e = .returned v' ∧ VRel ψ v v' ∧ HRel B0 w0 ψ h1 w' := by
  have hF : FRel φ { n := Nat.max args.length fn.ntmps, t := T.ofList args } { tmps := (⟨args'⟩ : Array Value) ++ Array.replicate (fn.ntmps - args'.length) undef, defers := [] } := by
    have hlen : args.length = args'.length := hargs.1
    refine ⟨?_, fun (t : Nat) => ?_⟩
    · simp only [Array.size_append, List.size_toArray, Array.size_replicate]
      show args'.length + (fn.ntmps - args'.length) = max args.length fn.ntmps
      omega
    simp only [Fr.ev, Act.eval, T.get?_ofList]
    rw [Array.getD_eq_getD_getElem?]
    by_cases ht : t < args.length
    · obtain ⟨v', hv', hr'⟩ := hargs.get (List.getElem?_eq_getElem ht)
      have ht' : t < args'.length := by omega
      rw [List.getElem?_eq_getElem ht, Array.getElem?_append_left (by simpa using ht')]
      simp only [List.getElem?_toArray, hv', Option.getD_some]
      exact hr'
    · rw [List.getElem?_eq_none (Nat.le_of_not_lt ht)]
      have : (((⟨args'⟩ : Array Value) ++ Array.replicate (fn.ntmps - args'.length) undef)[t]?).getD undef = undef := by
        rw [Array.getElem?_append_right (by simp; omega)]
        by_cases h2 : t - args'.length < fn.ntmps - args'.length
        · simp [h2]
        · simp [h2]
      rw [this]
      exact VRel.undef
  have hA := (run_ok ih (hdrawn _ ih) hmix n).1 c _ F1 h h1 e hrun hcode B0 w0 φ _ w hF H hG
    (bodyPostX P fn fun e w' => ∃ ψ v', φ.le ψ ∧ e = .returned v' ∧ VRel ψ v v' ∧ HRel B0 w0 ψ h1 w') (fun ψ a' w' B1 w1 hle hF' H' hex hd => by
      have res : ∀ W, HRel B0 w0 ψ h1 W → ∃ v', (results fn a'.tmps).run P W = .ok v' W ∧ VRel ψ v v' := fun W H' => by
        have fin : ∀ vs vs', resultL P F1 h1 fn.results.toList = some vs → LRel ψ vs vs' →
            ((fn.results.mapM (fun | .tmp t => pure (a'.tmps.getD t undef) | .cell p t => do loadVar t (← asAddr (a'.tmps.getD p undef))) : Sem (Array Value)).run P W = .ok ⟨vs'⟩ W) →
            (results fn a'.tmps).run P W = .ok (if h : (⟨vs'⟩ : Array Value).size = 1 then (⟨vs'⟩ : Array Value)[0] else .tuple ⟨vs'⟩) W := by
          intro vs vs' _ _ hm
          unfold results
          simp only [Sem.run_bind]
          refine Eq.trans (congrArg (fun r => Result.andThen r _) hm) ?_
          rfl
        rcases hres with hx | ⟨vs, hx, hnot, rfl⟩
        · obtain ⟨vs', hv1, hv2⟩ := results_ok (P := P) H' hF' hx
          obtain ⟨y, t, rfl, hy, ht⟩ := hv2.cons_left
          cases ht.nil_left
          have := fin _ _ hx hv2 (by rw [Array.mapM_eq_mapM_toList, Sem.run_map, hv1]; rfl)
          exact ⟨y, by simpa using this, hy⟩
        · obtain ⟨vs', hv1, hv2⟩ := results_ok (P := P) H' hF' hx
          have := fin _ _ hx hv2 (by rw [Array.mapM_eq_mapM_toList, Sem.run_map, hv1]; rfl)
          have hlen : (⟨vs'⟩ : Array Value).size ≠ 1 := by
            intro hl
            have hl' : vs.length = 1 := by rw [hv2.1]; simpa using hl
            match vs, hl' with
            | [q], _ => exact hnot q rfl
          rw [dif_neg hlen] at this
          exact ⟨_, this, VRel.tuple' hv2⟩
      obtain ⟨ds, hds, hgd, hnd⟩ := hd
      have hds : a'.defers = ds := by rw [hds]; simp
      have hlv := leave_ok (P := P) (fn := fn) (tmps := a'.tmps) (R := fun e w' => ∃ ψ v', φ.le ψ ∧ e = .returned v' ∧ VRel ψ v v' ∧ HRel B0 w0 ψ h1 w')
        (fun W HW => by obtain ⟨v', hv1, hv2⟩ := res W HW; exact ⟨v', hv1, ψ, v', hle, rfl, hv2, HW⟩) ds w' B1 w1 H' hex (fun d hd => (hgd d hd).imp id fun ⟨r, x, y, z, k⟩ => ⟨r, x, y, z, by rw [H'.below.block r z]; exact k⟩) hnd
      rw [← hds] at hlv
      cases e with
      | normal => exact hlv
      | exit id => exact absurd rfl (hne id)
      | ret => exact hlv)
  exact calls_of_wp_X (P := P) (f := f) (args := ⟨args'⟩) (R := fun e w' => ∃ ψ v', φ.le ψ ∧ e = .returned v' ∧ VRel ψ v v' ∧ HRel B0 w0 ψ h1 w') hfn hbody (w := w) (by simpa using hA)
def globMap (n : Nat) : Map := fun i => if i < n then some (i, 0, 0) else none
theorem glob_rel0 {n : Nat} {W : World} : HRel (Zn.lt W.heap.size) W (globMap n) ⟨n, .nil, .nil, .nil, .nil⟩ W := by
  refine ⟨fun _ h => h, BelowZ.refl _ _, ?_, ?_, ?_, ?_, ?_, TyR.nil rfl⟩
  · intro i x hx
    unfold globMap at hx
    split at hx
    · rename_i hi
      exact hi
    · cases hx
  · intro i o x ho; simp [T.get?] at ho
  · intro i o ho; simp [T.get?] at ho
  · intro i f g lo hi sz cs ho; simp [T.get?] at ho
  · intro i j oi oj b σ κ σ' κ' _ ho; simp [T.get?] at ho
theorem HRel.beside (H : HRel B0 w0 φ h w) {w' : World} (hb : BelowZ (Zn.lt w.heap.size) w w') : HRel B0 w0 φ h w' := by
  have hlt : ∀ i o b σ κ, h.objs.get? i = some o → φ i = some (b, σ, κ) → w'.heap[b]? = w.heap[b]? := fun i o b σ κ ho hp => hb.block b (H.lt ho hp)
  refine ⟨H.base, H.below.trans ⟨hb.os, hb.tape, hb.output, hb.size, fun k hk => hb.block k (H.inn k hk)⟩, H.dom, fun i o x ho hp => Nat.lt_of_lt_of_le (H.lto i o x ho hp) hb.size, fun i o ho => ?_, H.fam, H.sep, ?_⟩
  · obtain ⟨b, σ, κ, hp, hr⟩ := H.obj i o ho
    exact ⟨b, σ, κ, hp, hr.same (hlt i o b σ κ ho hp)⟩
  · refine H.ty.same ⟨fun b c t fz hc => ⟨c, fz, ?_⟩, fun b hc => ?_, fun b hx => hx.keep fun e n hc => ?_⟩ rfl (Nat.le_refl _)
    · rw [hb.block b (Array.getElem?_eq_some_iff.1 hc).1]
      exact hc
    · rw [hb.block b (Array.getElem?_eq_some_iff.1 hc).1]
      exact hc
    · rw [hb.block b (Array.getElem?_eq_some_iff.1 hc).1]
      exact hc
theorem nb_some {f : FuncId} {fn : Func} (hfn : P.funcs[f]? = some fn) (h : fn.body.isNone = true) : hasBody P f = false := by
  unfold hasBody
  rw [hfn]
  simp only
  cases hb : fn.body with
  | none => rfl
  | some c => rw [hb] at h; cases h
theorem plain1_rel {φ ψ : Map} {v v' : Value} (hp : plain1 v = true) (h : VRel φ v v') : VRel ψ v v' := by
  cases h with
  | bool b => exact .bool b
  | int k n => exact .int k n
  | string s => exact .string s
  | _ => simp [plain1] at hp
theorem plainL_at : ∀ {l : List Value}, plainL l = true → ∀ (i : Nat) v, l[i]? = some v → plain1 v = true
  | [], _, _, _, h => by simp at h
  | x :: l, hp, i, v, h => by
    simp only [plainL, Bool.and_eq_true] at hp
    cases i with
    | zero => simp only [List.getElem?_cons_zero, Option.some.injEq] at h; rw [← h]; exact hp.1
    | succ i => exact plainL_at hp.2 i v (by simpa using h)
theorem plain_rel {φ ψ : Map} {v v' : Value} (hp : plain v = true) (h : VRel φ v v') : VRel ψ v v' := by
  cases h with
  | bool b => exact .bool b
  | int k n => exact .int k n
  | string s => exact .string s
  | agg hl h =>
    simp only [plain] at hp
    exact .agg hl fun i v v' e e' => plain1_rel (plainL_at hp i v e) (h i v v' e e')
  | _ => simp [plain, plain1] at hp
theorem plainL_rel {φ ψ : Map} {l l' : List Value} (h : L2 (VRel φ) l l') (hp : plainL l = true) : L2 (VRel ψ) l l' :=
  ⟨h.1, fun i v v' e e' => plain1_rel (plainL_at hp i v e) (h.2 i v v' e e')⟩
theorem plain1_self {φ : Map} {v : Value} (hp : plain1 v = true) : VRel φ v v := by
  cases v <;> first | exact .bool _ | exact .int _ _ | exact .string _ | simp [plain1] at hp
theorem plainL_mapI : ∀ l : List Int, plainL (l.map (.int .i64)) = true
  | [] => rfl
  | z :: l => by simp only [List.map_cons, plainL, plain1, Bool.true_and]; exact plainL_mapI l
theorem plainL_mapS : ∀ l : List ByteArray, plainL (l.map .string) = true
  | [] => rfl
  | z :: l => by simp only [List.map_cons, plainL, plain1, Bool.true_and]; exact plainL_mapS l
theorem srt_plain {st : Bool} {l r : List Value} (h : sortK st l = some r) : plainL r = true := by
  unfold sortK at h
  split at h
  · split at h
    · cases h; exact plainL_mapI _
    · cases h
  · split at h
    · cases h; exact plainL_mapS _
    · cases h
theorem plain1_eq {φ : Map} {v v' : Value} (hp : plain1 v = true) (h : VRel φ v v') : v' = v := by
  cases h with
  | bool b => rfl
  | int k n => rfl
  | string s => rfl
  | _ => simp [plain1] at hp
theorem plainL_eq {φ : Map} : ∀ {l l' : List Value}, plainL l = true → L2 (VRel φ) l l' → l' = l
  | [], l', _, h => h.nil_left
  | x :: l, l', hp, h => by
    obtain ⟨y, t, rfl, h1, h2⟩ := h.cons_left
    simp only [plainL, Bool.and_eq_true] at hp
    rw [plain1_eq hp.1 h1, plainL_eq hp.2 h2]
theorem ints_plain : ∀ {l : List Value} {r : List Int}, intsOf l = some r → plainL l = true
  | [], _, _ => rfl
  | v :: l, r, h => by
    unfold intsOf at h
    split at h
    · rename_i e; cases e
    · rename_i e
      cases e
      split at h
      · rename_i r2 _ h2
        simp only [plainL, plain1, Bool.true_and]
        exact ints_plain h2
      · cases h
    · cases h
theorem strs_plain : ∀ {l : List Value} {r : List ByteArray}, strsOf l = some r → plainL l = true
  | [], _, _ => rfl
  | v :: l, r, h => by
    unfold strsOf at h
    split at h
    · rename_i e; cases e
    · rename_i e
      cases e
      split at h
      · rename_i r2 _ h2
        simp only [plainL, plain1, Bool.true_and]
        exact strs_plain h2
      · cases h
    · cases h
theorem sort_plain {st : Bool} {l r : List Value} (h : sortK st l = some r) : plainL l = true := by
  unfold sortK at h
  split at h
  · split at h
    · rename_i zs hz; exact ints_plain hz
    · cases h
  · split at h
    · rename_i ss hs; exact strs_plain hs
    · cases h
theorem fn_ptr_inv {φ : Map} {g p : Nat} {x : Value} (h : VRel φ (.func (.func g) ⟨[]⟩ ⟨[.pointer (some ⟨p, 0, none⟩)]⟩) x) : ∃ b σ κ, φ p = some (b, σ, κ) ∧ σ ≤ 0 ∧ x = .func (.func g) #[] #[.pointer (some ⟨b, 0, none⟩)] := by
  cases h with
  | func fn hf hfs hc hcs =>
    rename_i f' c'
    have e1 := List.eq_nil_of_length_eq_zero hf.symm
    subst e1
    match c', hc with
    | [y], _ =>
      have := hcs 0 _ y rfl rfl
      cases this with
      | ptr h hs => exact ⟨_, _, _, h, hs, by simp⟩
theorem strIs_spec {v : Option Value} {s : ByteArray} (h : strIs v s = true) : v = some (.string s) := by
  unfold strIs at h
  split at h
  · rename_i t
    rw [beq_iff_eq] at h
    have : t = s := ByteArray.ext (Array.ext' h)
    rw [this]
  · cases h
theorem askIs_ok {h : AW} {w : World} (H : HRel B0 w0 φ h w) {j b σ κ : Nat} {s : ByteArray} (hj : φ j = some (b, σ, κ)) (hσ : σ = 0) (ha : askIs h j s = true) : ∃ (a : Addr) (n : Nat), w.cell? ⟨b, 10, none⟩ = some (.slice (some a) 1 n) ∧ w.cell? a = some (.string s) := by
  subst hσ
  unfold askIs at ha
  split at ha
  · rename_i i off n h1
    have h2 := strIs_spec ha
    obtain ⟨_, v', hc, hv⟩ := H.rd h1 hj
    cases hv with
    | slice h3 hs ho =>
      rename_i b2 σ2 κ2 a'
      rcases ho with rfl | ⟨h0, _⟩
      · obtain ⟨_, v2, hc2, hv2⟩ := H.rd h2 h3
        cases hv2
        exact ⟨_, _, by simpa using hc, hc2⟩
      · cases h0
  · cases ha
theorem edges_ok {f : FuncId} {args : List Value} {h h' : AW} {v : Value} (hr : edgesV P f args h = some (v, h')) : (∃ fn c, P.funcs[f]? = some fn ∧ fn.body = some c ∧ (fn.name == "runtime.NumGoroutine") = false) ∧
    ∀ (φ : Map) (w : World) (args' : List Value), LRel φ args args' → HRel B0 w0 φ h w →
      Calls P f ⟨args'⟩ w fun e w' => ∃ ψ v', φ.le ψ ∧ e = .returned v' ∧ VRel ψ v v' ∧ HRel B0 w0 ψ h' w' := by
  unfold edgesV at hr
  split at hr
  rotate_left
  · cases hr
  rename_i hs
  split at hr
  rotate_left
  · cases hr
  rename_i hC
  refine ⟨?_, fun φ w args' hl H => ?_⟩
  · unfold edgeOf at hs
    split at hs
    · rename_i fn hfn
      simp only [Bool.and_eq_true, Bool.not_eq_true'] at hs
      obtain ⟨c, hc⟩ := Option.isSome_iff_exists.1 hs.1.1
      exact ⟨fn, c, hfn, hc, hs.2⟩
    · cases hs
  · unfold edgeRow at hr
    split at hr
    · simp only [Option.some.injEq, Prod.mk.injEq] at hr
      obtain ⟨rfl, rfl⟩ := hr
      obtain ⟨x, t, rfl, hx, ht⟩ := hl.cons_left
      cases ht.nil_left
      cases hx
      refine (hC.1 w).mono fun e w' he => ?_
      obtain ⟨hB, rfl⟩ := he
      exact ⟨φ, _, φ.le_refl, rfl, .sliceN 0 0, H.beside ⟨hB.os, hB.tape, hB.output, hB.size, fun k hk => hB.block k hk⟩⟩
    · rename_i p
      split at hr
      rotate_left
      · cases hr
      rename_i he
      split at hr
      rotate_left
      · cases hr
      rename_i i h2 hn
      simp only [Option.some.injEq, Prod.mk.injEq] at hr
      obtain ⟨rfl, rfl⟩ := hr
      obtain ⟨x, t, rfl, hx, ht⟩ := hl.cons_left
      cases ht.nil_left
      obtain ⟨_, b, σ, κ, hp, hσ, rfl⟩ := hx.ptr_inv
      have hσ0 : σ = 0 := by omega
      subst hσ0
      unfold edgeIs at he
      split at he
      rotate_left
      · cases he
      rename_i m h1
      split at he
      rotate_left
      · cases he
      rename_i k1 j1 k2 j2 ho
      simp only [Bool.and_eq_true] at he
      obtain ⟨⟨⟨e1, e2⟩, e3⟩, e4⟩ := he
      have e1 := Option.some.inj (strIs_spec e1)
      have e2 := Option.some.inj (strIs_spec e2)
      subst e1 e2
      obtain ⟨_, v', hc, hv⟩ := H.rd h1 hp
      cases hv with
      | map hm =>
        rename_i mb σ2 κ2
        obtain ⟨b3, σ3, κ3, hp3, hR⟩ := H.obj m _ ho
        rw [hm] at hp3; cases hp3
        obtain ⟨_, _, _, ents, clock, hw, hl2, hst⟩ := hR
        obtain ⟨x1, t1, hx1, ⟨r1, r2⟩, ht1⟩ := hl2.cons_left
        obtain ⟨x2, t2, rfl, ⟨r3, r4⟩, ht2⟩ := ht1.cons_left
        cases ht2.nil_left
        obtain ⟨_, jb1, js1, jk1, hj1, hjs1, hv1⟩ := r2.ptr_inv
        obtain ⟨_, jb2, js2, jk2, hj2, hjs2, hv2⟩ := r4.ptr_inv
        have z1 : js1 = 0 := by omega
        have z2 : js2 = 0 := by omega
        subst z1 z2
        obtain ⟨a1, n1, c1, c2⟩ := askIs_ok H hj1 rfl e3
        obtain ⟨a2, n2, c3, c4⟩ := askIs_ok H hj2 rfl e4
        refine (hC.2 w b jb1 jb2 mb n1 n2 a1 a2 ents clock (by simpa using hc) hw hst (by
          rw [hx1]
          simp only [List.map_cons, List.map_nil]
          rw [hv1, hv2, r1.string_inv, r3.string_inv]) c1 c2 c3 c4).mono fun e w' he => ?_
        obtain ⟨hB, gb, cap, rfl, hgb, hblk, hcap, hget, hall⟩ := he
        have H1 := H.beside (w' := w') ⟨hB.os, hB.tape, hB.output, hB.size, fun k hk => hB.block k hk⟩
        unfold AW.newRow at hn
        split at hn
        · simp only [Option.some.injEq, Prod.mk.injEq] at hn
          obtain ⟨rfl, rfl⟩ := hn
          have := H1.take (.row (h.next + 1) 0 0 4 2 (T.ofList [Value.string tB, .string tA, .string tC, .string tB])) gb 0 (cap - 2) (h.next + 2) (h.fams.set (h.next + 1) ⟨0, 4, 0⟩) (by omega) hblk (fun i o x σ κ ho hp => by
              have := H.lto i o _ ho hp
              simp only at this
              omega) (fun f hf => T.get?_set_ne _ _ (by omega)) (by
              intro fm hf _
              rw [T.get?_set_same] at hf
              simp only [Option.some.injEq] at hf
              subst hf
              refine ⟨fun hz => ?_, Nat.le_refl _, Nat.le_refl _, ?_, ?_, fun k _ _ _ => ?_⟩
              · have h3 := H.base gb hz
                have h4 := H.below.size
                omega
              · intro k v _ hk hv
                rw [T.get?_ofList] at hv
                refine ⟨v, ?_, ?_⟩
                · rw [Nat.sub_zero]; exact hget k v hv
                · exact plain1_self (plainL_at (l := [Value.string tB, .string tA, .string tC, .string tB]) rfl k v hv)
              · intro k _ hk
                rw [Nat.sub_zero]
                exact (hall k (by omega)).1
              · rw [Nat.sub_zero]
                rename_i k1 k2 k3
                exact (hall k (by omega)).2) (fun f g lo hi sz cs e => by cases e; exact ⟨by omega, _, T.get?_set_same _ _ _, Nat.le_refl _⟩)
          refine ⟨_, _, this.2, rfl, ?_, this.1⟩
          have h5 := VRel.slice (φ := φ.add h.next (gb, 0, cap - 2)) (i := h.next) (off := 0) (len := 2) (cap := 2) (a' := ⟨gb, 0, none⟩) (Map.add_same _ _ _) (Nat.zero_le _) (.inl rfl)
          rw [show 2 + (cap - 2) = cap by omega] at h5
          exact h5
        · cases hn
      | _ => cases h1
    · cases hr
theorem sort_ok {f : FuncId} {args : List Value} {h h' : AW} {v : Value} (hr : sortV P f args h = some (v, h')) : (∃ fn c, P.funcs[f]? = some fn ∧ fn.body = some c ∧ (fn.name == "runtime.NumGoroutine") = false) ∧
    ∀ (φ : Map) (w : World) (args' : List Value), LRel φ args args' → HRel B0 w0 φ h w →
      Calls P f ⟨args'⟩ w fun e w' => ∃ ψ v', φ.le ψ ∧ e = .returned v' ∧ VRel ψ v v' ∧ HRel B0 w0 ψ h' w' := by
  unfold sortV at hr
  split at hr
  rotate_left
  · cases hr
  rename_i g p
  split at hr
  rotate_left
  · cases hr
  rename_i ks st hk hs
  split at hr
  rotate_left
  · cases hr
  rename_i srt hle hsrt
  split at hr
  rotate_left
  · cases hr
  rename_i hC
  refine ⟨?_, fun φ w args' hl H => ?_⟩
  · unfold sortOf at hs
    split at hs
    · rename_i fn hfn
      split at hs
      · rename_i hx
        simp only [Bool.and_eq_true, Bool.not_eq_true'] at hx
        obtain ⟨c, hc⟩ := Option.isSome_iff_exists.1 hx.1.1
        exact ⟨fn, c, hfn, hc, hx.2⟩
      · cases hs
    · cases hs
  · obtain ⟨x, t, rfl, hx, ht⟩ := hl.cons_left
    cases ht.nil_left
    obtain ⟨b, σ, κ, hp, hσ, rfl⟩ := fn_ptr_inv hx
    have hkeys : ∃ mb, w.cell? ⟨b, 0, none⟩ = some (.map mb) ∧ keysAt w mb ks := by
      unfold keysOf at hk
      split at hk
      · rename_i h1
        cases hk
        obtain ⟨_, v', hc, hv⟩ := H.rd h1 hp
        cases hv with
        | mapN => exact ⟨none, by simpa using hc, rfl⟩
      · rename_i m h1
        split at hk
        · rename_i es ho
          cases hk
          obtain ⟨_, v', hc, hv⟩ := H.rd h1 hp
          cases hv with
          | map hm =>
            rename_i b2 σ2 κ2
            obtain ⟨b3, σ3, κ3, hp3, hR⟩ := H.obj m _ ho
            rw [hm] at hp3; cases hp3
            obtain ⟨_, _, _, ents, clock, hw, hl2, hst⟩ := hR
            refine ⟨some b2, by simpa using hc, ents, clock, hw, hst, ?_⟩
            exact plainL_eq (sort_plain hsrt) (L2.map (fun _ _ x => x.1) hl2)
        · cases hk
      · cases hk
    obtain ⟨mb, hc, hka⟩ := hkeys
    refine (hC w b mb ks srt hc hka (Nat.le_of_ble_eq_true hle) hsrt).mono fun e w' he => ?_
    obtain ⟨hB, hcase⟩ := he
    have hb' : BelowZ (Zn.lt w.heap.size) w w' := ⟨hB.os, hB.tape, hB.output, hB.size, fun k hk => hB.block k hk⟩
    have H1 := H.beside hb'
    rcases hcase with ⟨rfl, rfl⟩ | ⟨hne, gb, cap, cur, E, rfl, hgb, hblk, hcap, hcs, htk⟩
    · simp only [sortRow, Option.some.injEq, Prod.mk.injEq] at hr
      obtain ⟨rfl, rfl⟩ := hr
      exact ⟨φ, _, φ.le_refl, rfl, .sliceN 0 0, H1⟩
    · unfold sortRow at hr
      split at hr
      · exact absurd rfl hne
      · split at hr
        · rename_i i h2 hn
          simp only [Option.some.injEq, Prod.mk.injEq] at hr
          obtain ⟨rfl, rfl⟩ := hr
          unfold AW.newRow at hn
          split at hn
          · simp only [Option.some.injEq, Prod.mk.injEq] at hn
            obtain ⟨rfl, rfl⟩ := hn
            have hcell : ∀ k, w'.cell? ⟨gb, k, none⟩ = cur[k]? := fun k => by simp [World.cell?, hblk]
            have hget : ∀ k v, srt[k]? = some v → cur[k]? = some v := fun k v hv => by
              have h3 : k < srt.length := (List.getElem?_eq_some_iff.1 hv).1
              rw [← htk, List.getElem?_take, if_pos h3] at hv
              rw [← Array.getElem?_toList]; exact hv
            have hpl : plainL srt = true := srt_plain hsrt
            have := H1.take (.row (h.next + 1) 0 0 srt.length 1 (T.ofList srt)) gb 0 (cap - srt.length) (h.next + 2) (h.fams.set (h.next + 1) ⟨0, srt.length, 0⟩) (by omega) (by
                have := (Array.getElem?_eq_some_iff.1 hblk).1
                exact this) (fun i o x σ κ ho hp => by
                have := H.lto i o _ ho hp
                simp only at this
                omega) (fun f hf => T.get?_set_ne _ _ (by omega)) (by
                intro fm hf _
                rw [T.get?_set_same] at hf
                simp only [Option.some.injEq] at hf
                subst hf
                refine ⟨fun hz => ?_, Nat.le_refl _, Nat.le_refl _, ?_, ?_, fun k _ _ _ => ?_⟩
                · have h3 := H.base gb hz
                  have h4 := H.below.size
                  omega
                · intro k v _ hk hv
                  rw [T.get?_ofList] at hv
                  refine ⟨v, ?_, ?_⟩
                  · rw [hcell, Nat.sub_zero]; exact hget k v hv
                  · exact plain1_self (plainL_at hpl k v hv)
                · intro k _ hk
                  have hlt : k < cur.size := by omega
                  exact ⟨cur[k], by rw [hcell, Nat.sub_zero]; exact Array.getElem?_eq_getElem hlt⟩
                · simp [World.frozen?, hblk]) (fun f g lo hi sz cs e => by cases e; exact ⟨by omega, _, T.get?_set_same _ _ _, Nat.le_refl _⟩)
            refine ⟨_, _, this.2, rfl, ?_, this.1⟩
            have h5 := VRel.slice (φ := φ.add h.next (gb, 0, cap - srt.length)) (i := h.next) (off := 0) (len := srt.length) (cap := srt.length) (a' := ⟨gb, 0, none⟩) (Map.add_same _ _ _) (Nat.zero_le _) (.inl rfl)
            rw [show srt.length + (cap - srt.length) = cap by omega] at h5
            exact h5
          · cases hn
        · cases hr
theorem nb_same {f : FuncId} (h : sameFn P f = true) : hasBody P f = false := by
  unfold sameFn at h
  split at h
  · rename_i fn hfn; simp only [Bool.and_eq_true] at h; exact nb_some hfn h.1.1
  · cases h
theorem nb_idx {f : FuncId} (h : idxFn P f = true) : hasBody P f = false := by
  unfold idxFn at h
  split at h
  · rename_i fn hfn; simp only [Bool.and_eq_true] at h; exact nb_some hfn h.1.1
  · cases h
theorem nb_cnt {f : FuncId} (h : cntFn P f = true) : hasBody P f = false := by
  unfold cntFn at h
  split at h
  · rename_i fn hfn; simp only [Bool.and_eq_true] at h; exact nb_some hfn h.1.1
  · cases h
theorem nb_mnz {f : FuncId} {e : TypeId} (h : mnzFn P f = some e) : hasBody P f = false := by
  unfold mnzFn at h
  split at h
  · rename_i fn hfn
    split at h
    · rename_i hx; simp only [Bool.and_eq_true] at hx; exact nb_some hfn hx.1.1
    · cases h
  · cases h
theorem callF_ok (hdrawn : ∀ (call : FuncId → List Value → AW → Option (Value × AW)), (∀ B0 w0, CallOk P B0 w0 call) → ∀ B0 w0, DrawnOk P B0 w0 call) : ∀ n B0 w0, CallOk P B0 w0 (callF P n) := by
  intro n
  induction n with
  | zero => intro B0 w0 f args h v h' hr; simp [callF] at hr
  | succ n ih =>
    intro B0 w0 f args h v h' hr
    simp only [callF] at hr
    split at hr
    · rename_i fn c hb
      have hfacts : P.funcs[f]? = some fn ∧ fn.body = some c ∧ codeOk P.globals.size c = true ∧ (fn.name == "runtime.NumGoroutine") = false ∧ P.follows .mixedOrders = true := by
        unfold bodyOf at hb
        split at hb
        · rename_i fn2 hfn
          split at hb
          · rename_i c2 hc2
            split at hb
            · rename_i hx
              simp only [Option.some.injEq, Prod.mk.injEq] at hb
              obtain ⟨rfl, rfl⟩ := hb
              simp only [Bool.and_eq_true, Bool.not_eq_true'] at hx
              exact ⟨hfn, hc2, hx.1.1.1, hx.1.2, hx.2⟩
            · cases hb
          · cases hb
        · cases hb
      obtain ⟨hfn, hbody, hcode, hname, hmix⟩ := hfacts
      refine .inl ⟨⟨fn, c, hfn, hbody, hname⟩, fun φ w args' hargs H hG => ?_⟩
      split at hr
      · cases hr
      · rename_i e F1 h1 hne hrun
        split at hr
        · rename_i x hx
          simp only [Option.some.injEq, Prod.mk.injEq] at hr
          obtain ⟨rfl, rfl⟩ := hr
          exact body_calls hdrawn ih hfn hbody hcode hmix hrun hne (.inl hx) B0 w0 φ w args' hargs H hG
        · rename_i vs hnot hx
          simp only [Option.some.injEq, Prod.mk.injEq] at hr
          obtain ⟨rfl, rfl⟩ := hr
          exact body_calls hdrawn ih hfn hbody hcode hmix hrun hne (.inr ⟨vs, hx, fun q e => hnot q e, rfl⟩) B0 w0 φ w args' hargs H hG
        · cases hr
      · cases hr
    · unfold noBodyV at hr
      split at hr
      rotate_left
      · split at hr
        rotate_left
        · split at hr
          · rename_i r he
            simp only [Option.some.injEq] at hr
            subst hr
            obtain ⟨h1, h2⟩ := edges_ok (B0 := B0) (w0 := w0) he
            exact .inl ⟨h1, fun φ w args' hl H _ => h2 φ w args' hl H⟩
          obtain ⟨h1, h2⟩ := sort_ok (B0 := B0) (w0 := w0) hr
          exact .inl ⟨h1, fun φ w args' hl H _ => h2 φ w args' hl H⟩
        rename_i fn c hb
        have hfacts : P.funcs[f]? = some fn ∧ fn.body = some c ∧ codeOk P.globals.size c = true ∧ (fn.name == "runtime.NumGoroutine") = false ∧ P.follows .mixedOrders = true := by
          unfold closedOf at hb
          split at hb
          · rename_i fn2 hfn
            split at hb
            · rename_i c2 hc2
              split at hb
              · rename_i hx
                simp only [Option.some.injEq, Prod.mk.injEq] at hb
                obtain ⟨rfl, rfl⟩ := hb
                simp only [Bool.and_eq_true, Bool.not_eq_true'] at hx
                exact ⟨hfn, hc2, hx.1.1.1, hx.1.2, hx.2⟩
              · cases hb
            · cases hb
          · cases hb
        obtain ⟨hfn, hbody, hcode, hname, hmix⟩ := hfacts
        split at hr
        rotate_left
        · cases hr
        rename_i hpl
        split at hr
        rotate_left
        · cases hr
        rename_i v2 hcr
        simp only [Option.some.injEq, Prod.mk.injEq] at hr
        obtain ⟨rfl, rfl⟩ := hr
        unfold closedRes at hcr
        split at hcr
        · cases hcr
        · rename_i e F1 h1 hne hrun
          split at hcr
          · rename_i x hx
            split at hcr
            · rename_i hpx
              simp only [Option.some.injEq] at hcr
              subst hcr
              refine .inl ⟨⟨fn, c, hfn, hbody, hname⟩, fun φ w args' hargs H hG => ?_⟩
              refine (body_calls hdrawn ih hfn hbody hcode hmix hrun hne (.inl hx) (Zn.lt w.heap.size) w (globMap P.globals.size) w args' (plainL_rel hargs hpl) glob_rel0 (fun g hg => by simp [globMap, hg])).mono fun e w' he => ?_
              obtain ⟨ψ, v', _, rfl, hv, H'⟩ := he
              exact ⟨φ, v', φ.le_refl, rfl, plain_rel hpx hv, H.beside H'.below⟩
            · cases hcr
          · cases hcr
        · cases hcr
      · rename_i r0 hr0
        simp only [Option.some.injEq] at hr
        subst hr
        rcases sameV_spec hr0 with ⟨rfl, ⟨p, rfl, rfl, hs⟩ | ⟨s, c, rfl, rfl, hs⟩ | ⟨s, c, rfl, rfl, hs⟩⟩ | ⟨m, el, j, h2, rfl, hs, hm, hnr, rfl, rfl⟩
        · refine .inr ⟨⟨(fun b hb => by cases hb), nb_same hs⟩, fun φ w args' hl H => ?_⟩
          obtain ⟨x', t1, rfl, hx, ht1⟩ := L2.cons_left hl
          cases ht1.nil_left
          exact ⟨φ, x', w, φ.le_refl, hx, H, same_run hs x' w⟩
        · refine .inr ⟨⟨(fun b hb => by cases hb), nb_idx hs⟩, fun φ w args' hl H => ?_⟩
          obtain ⟨x', t1, rfl, hx, ht1⟩ := L2.cons_left hl
          obtain ⟨y', t2, rfl, hy, ht2⟩ := L2.cons_left ht1
          cases ht2.nil_left
          rw [hx.string_inv, hy.int_inv]
          exact ⟨φ, _, w, φ.le_refl, .int _ _, H, idx_run hs s c w⟩
        · refine .inr ⟨⟨(fun b hb => by cases hb), nb_cnt hs⟩, fun φ w args' hl H => ?_⟩
          obtain ⟨x', t1, rfl, hx, ht1⟩ := L2.cons_left hl
          obtain ⟨y', t2, rfl, hy, ht2⟩ := L2.cons_left ht1
          cases ht2.nil_left
          rw [hx.string_inv, hy.int_inv]
          exact ⟨φ, _, w, φ.le_refl, .int _ _, H, cnt_run hs s c w⟩
        · refine .inr ⟨⟨(fun b hb => by cases hb), nb_mnz hs⟩, fun φ w args' hl H => ?_⟩
          obtain ⟨x', t1, rfl, hx, ht1⟩ := L2.cons_left hl
          cases ht1.nil_left
          rw [hx.int_inv]
          obtain ⟨cs, hrun⟩ := mnz_run hs hm w
          obtain ⟨ψ, hle, hp, H'⟩ := (H.drew.drew).newRow hnr L2.nil el cs.size (rest := cs.toList) (by simp)
          have hcs : (⟨[] ++ cs.toList⟩ : Array Value) = cs := by simp
          rw [hcs] at H'
          refine ⟨ψ, _, _, hle, ?_, H'.tag (H'.dom j _ hp) (fun b σ κ hp2 => ?_), hrun⟩
          · have := VRel.slice (φ := ψ) (i := j) (off := 0) (len := m) (cap := 0) (a' := ⟨w.heap.size, 0, none⟩) hp (Nat.zero_le _) (.inl rfl)
            rw [Nat.zero_add] at this
            exact this
          · rw [hp] at hp2
            cases hp2
            refine ⟨cs, (0, 0), ?_⟩
            show (w.drew.drew.heap.push (Obj.cells cs el))[w.drew.drew.heap.size]? = _
            generalize w.drew.drew.heap = z
            simp
end Go.Abs
end

section
/- A region whose order is open: whatever the order, it ends as the text's own. -/
open Go.RowKit
namespace Go.Abs
variable {B0 : Zn} {w0 : World} {φ : Map} {h h' : AW} {w : World} {P : Program}
theorem beqV_ok : ∀ (n : Nat) (a b : Value), beqV n a b = true → a = b := by
  have strs : ∀ a b : ByteArray, (a.data.toList == b.data.toList) = true → a = b := by
    intro a b h
    rw [beq_iff_eq] at h
    apply ByteArray.ext
    exact Array.ext' h
  have base : ∀ (n : Nat), (∀ a b, (∀ m, n = m + 1 → ∀ a b, beqV m a b = true → a = b) → beqV n a b = true → a = b) := by
    intro n a b ih h
    have lists : ∀ m, n = m + 1 → ∀ (xs ys : List Value), beqV.go m xs ys = true → xs = ys := by
      intro m hm xs
      induction xs with
      | nil => intro ys h; cases ys with
        | nil => rfl
        | cons y ys => simp [beqV.go] at h
      | cons x xs ihx => intro ys h; cases ys with
        | nil => simp [beqV.go] at h
        | cons y ys =>
          simp only [beqV.go, Bool.and_eq_true] at h
          rw [ih m hm x y h.1, ihx ys h.2]
    unfold beqV at h
    split at h
    · rw [beq_iff_eq] at h; rw [h]
    · simp only [Bool.and_eq_true, decide_eq_true_eq, beq_iff_eq] at h; rw [h.1, h.2]
    · rw [strs _ _ h]
    · simp only [decide_eq_true_eq] at h; rw [h]
    · simp only [Bool.and_eq_true, decide_eq_true_eq] at h; rw [h.1.1, beq_true h.1.2, beq_true h.2]
    · simp only [decide_eq_true_eq] at h; rw [h]
    · rfl
    · rfl
    · simp only [Bool.and_eq_true] at h; rw [beq_true h.1, ih _ rfl _ _ h.2]
    · rename_i m a b
      have := lists m rfl _ _ h
      rw [show a = b from Array.ext' this]
    · rename_i m a b
      have := lists m rfl _ _ h
      rw [show a = b from Array.ext' this]
    · rename_i m f a b f' a' b'
      simp only [Bool.and_eq_true, decide_eq_true_eq] at h
      rw [h.1.1, show a = a' from Array.ext' (lists m rfl _ _ h.1.2), show b = b' from Array.ext' (lists m rfl _ _ h.2)]
    · cases h
  intro n
  induction n with
  | zero => intro a b h; exact base 0 a b (fun m hm => by omega) h
  | succ n ih => intro a b h; exact base (n + 1) a b (fun m hm => by cases hm; exact ih) h
theorem mem_tmpsOf : ∀ {l : List Operand} {t : Nat}, .tmp t ∈ l → t ∈ tmpsOf l
  | x :: l, t, h => by
    rcases List.mem_cons.1 h with rfl | hm
    · simp [tmpsOf]
    · have := mem_tmpsOf hm
      cases x <;> simp [tmpsOf, this]
theorem rev_of {F : Fr} {a : Act} {l : List Operand} (hl : operandsOk P.globals.size l = true) (hG : Glob P φ) (ht : ∀ t, t ∈ tmpsOf l → VRel φ (F.ev (.tmp t)) (a.eval (.tmp t))) : Rev φ F a.eval l := by
  intro x hx
  have hok := operandsOk_spec hl x hx
  cases x with
  | tmp t => exact ht t (mem_tmpsOf hx)
  | const v => exact flat_rel hok
  | global g => exact VRel.ptr (off := 0) (hG g (ble_true hok)) (Nat.zero_le _)
  | func f => exact VRel.func' _ L2.nil L2.nil
theorem guard_ok' {F : Fr} {a : Act} {ops : Array Oper} {o : Oper} {b : Bool} (hd : ∀ j want oj d, o.guard = some (j, want) → ops.toList[j]? = some oj → oj.dst = some d → VRel φ (F.ev (.tmp d)) (a.eval (.tmp d)))
    (hg : guardOk ops.toList F o = some b) : Region.wanted o (yielded ops a.tmps) = b := by
  unfold guardOk at hg
  unfold Region.wanted
  split at hg
  · rename_i he
    simp only [Option.some.injEq] at hg; subst hg
    rw [he]
  · rename_i j want he
    rw [he]
    simp only
    unfold yielded
    split at hg
    · rename_i oj hoj
      have hoj' : ops[j]? = some oj := by simpa using hoj
      rw [hoj']
      simp only [Option.bind_some]
      split at hg
      · rename_i d hdd
        rw [hdd]
        simp only [Option.bind_some]
        have hr := hd j want oj d he hoj hdd
        simp only [Fr.ev, Act.eval] at hr
        have conc : ∀ v, a.tmps.getD d undef = v → ∀ c, v = .bool c → a.tmps[d]? = some (.bool c) := by
          intro v hv c hc
          rw [Array.getD_eq_getD_getElem?] at hv
          cases hx : a.tmps[d]? with
          | none => rw [hx] at hv; simp only [Option.getD_none] at hv; rw [hc] at hv; cases hv
          | some u => rw [hx] at hv; simp only [Option.getD_some] at hv; rw [hv, hc]
        split at hg
        · rename_i c hc
          rw [hc] at hr
          simp only [Option.some.injEq] at hg; subst hg
          have := conc _ hr.bool_inv c rfl
          rw [this]
          cases c <;> cases want <;> rfl
        · rename_i hnb
          simp only [Option.some.injEq] at hg; subst hg
          have hne : ∀ c, a.tmps[d]? ≠ some (.bool c) := by
            intro c hc
            have hgd : a.tmps.getD d undef = .bool c := by rw [Array.getD_eq_getD_getElem?, hc]; rfl
            rw [hgd] at hr
            cases hx : F.t.get? d with
            | none => rw [hx] at hr; cases hr
            | some u => rw [hx] at hr; simp only at hr; cases hr; exact hnb c hx
          cases hx : a.tmps[d]? with
          | none => cases want <;> rfl
          | some u =>
            rw [hx] at hne
            cases u <;> first | (exact absurd rfl (hne _)) | (cases want <;> rfl)
      · rename_i hdd
        rw [hdd]
        simp only [Option.some.injEq] at hg; subst hg
        cases want <;> rfl
    · rename_i hoj
      have hoj' : ops[j]? = none := by simpa using hoj
      rw [hoj']
      simp only [Option.some.injEq] at hg; subst hg
      cases want <;> rfl
theorem act_ok {call : FuncId → List Value → AW → Option (Value × AW)} (hcall : CallOk P B0 w0 call) {o : Oper} {F : Fr} {a : Act} {v : Value}
    (hrev : Rev φ F a.eval o.op.operands.toList) (H : HRel B0 w0 φ h w) (hG : Glob P φ) (hv : actV P call F h o = some (v, h')) (K : Act → World → Prop) (Q : Exit → Act → World → Prop)
    (hK : ∀ ψ v' w', φ.le ψ → VRel ψ v v' → HRel B0 w0 ψ h' w' → K (a.put o.dst v') w') : o.wp P a w K Q := by
  unfold actV at hv
  split at hv
  · rename_i f args ats hop
    rw [hop] at hrev
    split at hv
    · rename_i fid cargs ht
      unfold target at ht
      simp only at ht
      split at ht
      · rename_i f' first captured hfe
        simp only [Option.some.injEq, Prod.mk.injEq] at ht
        obtain ⟨rfl, rfl⟩ := ht
        have hf := hrev f (by simp [Op.operands, Call.operands])
        rw [hfe] at hf
        obtain ⟨first', captured', hfc, hl1, hl2⟩ := hf.func_inv
        have hargs : LRel φ (vals F args) (args.map a.eval).toList := by
          rw [Array.toList_map]
          exact L2.self_map fun x hx => hrev x (by simp [Op.operands, Call.operands]; exact .inr (by simpa using hx))
        have hall : LRel φ (first.toList ++ (vals F args ++ captured.toList)) (first'.toList ++ ((args.map a.eval).toList ++ captured'.toList)) := hl1.append (hargs.append hl2)
        rcases hcall _ _ _ _ _ hv with ⟨⟨fn, c, hfn, hbody, hname⟩, hcalls⟩ | ⟨_, hext⟩
        rotate_left
        · obtain ⟨ψ, x', w', hle, hx, H', hext⟩ := hext φ w _ hall H
          have harr : (first' ++ args.map a.eval ++ captured' : Array Value) = ⟨first'.toList ++ ((args.map a.eval).toList ++ captured'.toList)⟩ := by
            apply Array.ext'; simp
          have hrun : (execOp a.eval o).run P w = .ok (.value x') w' := by
            simp only [execOp, hop, resolve, hfc, Deferred.ofValue, Sem.run_bind, Sem.run_pure, Result.andThen_ok, invoke, harr, hext]
          unfold Oper.wp
          rw [hrun, Oper.upon_value]
          exact hK ψ x' w' hle hx H'
        have hC := hcalls φ w _ hall H hG
        have hrun : (execOp a.eval o).run P w = .ok (.enter f' ⟨first'.toList ++ ((args.map a.eval).toList ++ captured'.toList)⟩) w := by
          have harr : (first' ++ args.map a.eval ++ captured' : Array Value) = ⟨first'.toList ++ ((args.map a.eval).toList ++ captured'.toList)⟩ := by
            apply Array.ext'; simp
          simp only [execOp, hop, resolve, hfc, Deferred.ofValue, Sem.run_bind, Sem.run_pure, Result.andThen_ok, invoke, callFunc, run_program, hfn, hname, Bool.false_eq_true, if_false, hbody, Option.isNone_some, harr]
        unfold Oper.wp
        rw [hrun, Oper.upon_enter]
        refine hC.mono fun e w' he => ?_
        obtain ⟨ψ, v', hle, rfl, hvr, H'⟩ := he
        exact hK ψ v' w' hle hvr H'
      · cases ht
    · cases hv
  · obtain ⟨ψ, v', w', hgives, hle, hvr, H'⟩ := opA_ok H hrev hv
    have hfin := hK ψ v' w' hle hvr H'
    unfold Oper.wp
    rcases hgives with hg1 | ⟨rfl, hg1⟩
    · rw [hg1, Oper.upon_value]; exact hfin
    · rw [hg1, Oper.upon_skip]; exact hfin
structure StSpec (P : Program) (vm : Option Nat) (call : FuncId → List Value → AW → Option (Value × AW)) (ops : List Oper) (s : St) : Prop where
  guard : guardOk ops s.F s.o = some s.want
  off : s.want = false → s.act = none ∧ s.v = undef
  quiet : s.want = true → s.act = none → opQV P vm s.F s.h s.o = some s.v
  turn : ∀ h', s.act = some h' → s.want = true ∧ actV P call s.F s.h s.o = some (s.v, h')
  room : ∀ d, s.o.dst = some d → d < s.F.n
theorem put_n {F F' : Fr} {d : Option Tmp} {v : Value} (hp : F.put d v = some F') : F'.n = F.n ∧ (∀ x, d = some x → x < F.n) ∧ ∀ t : Nat, F'.ev (.tmp t) = if d = some t then v else F.ev (.tmp t) := by
  unfold Fr.put at hp
  cases d with
  | none => simp only [Option.some.injEq] at hp; subst hp; exact ⟨rfl, fun x e => (by cases e), fun t => by simp⟩
  | some d =>
    simp only at hp
    split at hp
    · rename_i hb
      simp only [Option.some.injEq] at hp; subst hp
      refine ⟨rfl, fun x e => by cases e; exact ble_true hb, fun t => ?_⟩
      by_cases ht : d = t
      · subst ht; simp [Fr.ev, T.get?_set_same]
      · have : ¬ (some d = some t) := fun e => ht (Option.some.inj e)
        rw [if_neg this]
        simp only [Fr.ev]
        rw [T.get?_set_ne _ _ (Ne.symm ht)]
    · cases hp
def hAt : AW → List (Nat × AW) → Nat → AW
  | h, [], _ => h
  | h, _ :: _, 0 => h
  | _, p :: l, k + 1 => hAt p.2 l k
theorem hAt_zero (h : AW) (As : List (Nat × AW)) : hAt h As 0 = h := by cases As <;> rfl
theorem acts_length (k m : Nat) : ∀ (l : List St), (acts k l).length = (acts m l).length
  | [] => rfl
  | s :: l => by
    simp only [acts]
    cases s.act with
    | none => exact acts_length (k + 1) (m + 1) l
    | some h => simp [acts_length (k + 1) (m + 1) l]
theorem trace_spec {vm : Option Nat} {call : FuncId → List Value → AW → Option (Value × AW)} {ops : List Oper} : ∀ (l : List Oper) (F : Fr) (h : AW) (tr : List St) (F' : Fr) (h' : AW), traceOps P vm call ops l F h = some (tr, F', h') →
    tr.length = l.length ∧ (∀ (j : Nat) (s : St), tr[j]? = some s → l[j]? = some s.o ∧ StSpec P vm call ops s ∧ s.F.n = F.n) ∧ F'.n = F.n ∧
    (∀ (j : Nat) (s : St), tr[j]? = some s → ∀ t : Nat, (∃ (i : Nat) (s' : St), i < j ∧ tr[i]? = some s' ∧ s'.o.dst = some t ∧ s.F.ev (.tmp t) = s'.v ∧ ∀ (i' : Nat) (s'' : St), i < i' → i' < j → tr[i']? = some s'' → s''.o.dst ≠ some t) ∨ ((∀ (i : Nat) (s' : St), i < j → tr[i]? = some s' → s'.o.dst ≠ some t) ∧ s.F.ev (.tmp t) = F.ev (.tmp t))) ∧
    (∀ t : Nat, (∃ (i : Nat) (s' : St), tr[i]? = some s' ∧ s'.o.dst = some t ∧ F'.ev (.tmp t) = s'.v ∧ ∀ (i' : Nat) (s'' : St), i < i' → tr[i']? = some s'' → s''.o.dst ≠ some t) ∨ ((∀ (i : Nat) (s' : St), tr[i]? = some s' → s'.o.dst ≠ some t) ∧ F'.ev (.tmp t) = F.ev (.tmp t))) ∧
    (∀ (j : Nat) (s : St), tr[j]? = some s → ∀ k, s.h = hAt h (acts k tr) (acts k (tr.take j)).length ∧ (∀ h2, s.act = some h2 → (acts k tr)[(acts k (tr.take j)).length]? = some (k + j, h2))) ∧
    (∀ k, h' = hAt h (acts k tr) (acts k tr).length)
  | [], F, h, tr, F', h', hr => by
    simp only [traceOps, Option.some.injEq, Prod.mk.injEq] at hr
    obtain ⟨rfl, rfl, rfl⟩ := hr
    exact ⟨rfl, fun j s hj => by simp at hj, rfl, fun j s hj => by simp at hj, fun t => .inr ⟨fun i s' hi => by simp at hi, rfl⟩, fun j s hj => by simp at hj, fun k => rfl⟩
  | o :: l, F, h, tr, F', h', hr => by
    have cons : ∀ (want : Bool) (act : Option AW) (v : Value) (F1 : Fr) (h1 : AW) (tr1 : List St), F.put o.dst v = some F1 → StSpec P vm call ops ⟨o, F, h, want, act, v⟩ → (match act with | some x => h1 = x | none => h1 = h) →
        traceOps P vm call ops l F1 h1 = some (tr1, F', h') → tr = ⟨o, F, h, want, act, v⟩ :: tr1 →
        tr.length = (o :: l).length ∧ (∀ (j : Nat) (s : St), tr[j]? = some s → (o :: l)[j]? = some s.o ∧ StSpec P vm call ops s ∧ s.F.n = F.n) ∧ F'.n = F.n ∧
        (∀ (j : Nat) (s : St), tr[j]? = some s → ∀ t : Nat, (∃ (i : Nat) (s' : St), i < j ∧ tr[i]? = some s' ∧ s'.o.dst = some t ∧ s.F.ev (.tmp t) = s'.v ∧ ∀ (i' : Nat) (s'' : St), i < i' → i' < j → tr[i']? = some s'' → s''.o.dst ≠ some t) ∨ ((∀ (i : Nat) (s' : St), i < j → tr[i]? = some s' → s'.o.dst ≠ some t) ∧ s.F.ev (.tmp t) = F.ev (.tmp t))) ∧
        (∀ t : Nat, (∃ (i : Nat) (s' : St), tr[i]? = some s' ∧ s'.o.dst = some t ∧ F'.ev (.tmp t) = s'.v ∧ ∀ (i' : Nat) (s'' : St), i < i' → tr[i']? = some s'' → s''.o.dst ≠ some t) ∨ ((∀ (i : Nat) (s' : St), tr[i]? = some s' → s'.o.dst ≠ some t) ∧ F'.ev (.tmp t) = F.ev (.tmp t))) ∧
        (∀ (j : Nat) (s : St), tr[j]? = some s → ∀ k, s.h = hAt h (acts k tr) (acts k (tr.take j)).length ∧ (∀ h2, s.act = some h2 → (acts k tr)[(acts k (tr.take j)).length]? = some (k + j, h2))) ∧
        (∀ k, h' = hAt h (acts k tr) (acts k tr).length) := by
      intro want act v F1 h1 tr1 hput hspec hact htr htreq
      subst htreq
      obtain ⟨pn, proom, pev⟩ := put_n hput
      obtain ⟨q1, q2, q3, q4, q5, q6, q7⟩ := trace_spec l F1 h1 tr1 F' h' htr
      refine ⟨by simp [q1], ?_, q3.trans pn, ?_, ?_, ?_, ?_⟩
      · intro j s hj
        cases j with
        | zero => simp at hj; subst hj; exact ⟨rfl, hspec, rfl⟩
        | succ j =>
          simp at hj
          obtain ⟨a1, a2, a3⟩ := q2 j s hj
          exact ⟨by simpa using a1, a2, a3.trans pn⟩
      · intro j s hj t
        cases j with
        | zero => simp at hj; subst hj; exact .inr ⟨fun i s' hi => by omega, rfl⟩
        | succ j =>
          simp at hj
          rcases q4 j s hj t with ⟨i, s', a1, a2, a3, a4, a5⟩ | ⟨b1, b2⟩
          · refine .inl ⟨i + 1, s', by omega, by simpa using a2, a3, a4, fun i' s'' c1 c2 c3 => ?_⟩
            cases i' with
            | zero => omega
            | succ i' => exact a5 i' s'' (by omega) (by omega) (by simpa using c3)
          · rw [pev] at b2
            by_cases hd : o.dst = some t
            · rw [if_pos hd] at b2
              refine .inl ⟨0, _, by omega, rfl, hd, b2, fun i' s'' c1 c2 c3 => ?_⟩
              cases i' with
              | zero => omega
              | succ i' => exact b1 i' s'' (by omega) (by simpa using c3)
            · rw [if_neg hd] at b2
              refine .inr ⟨fun i s' c1 c2 => ?_, b2⟩
              cases i with
              | zero => simp at c2; subst c2; exact hd
              | succ i => exact b1 i s' (by omega) (by simpa using c2)
      · intro t
        rcases q5 t with ⟨i, s', a2, a3, a4, a5⟩ | ⟨b1, b2⟩
        · refine .inl ⟨i + 1, s', by simpa using a2, a3, a4, fun i' s'' c1 c3 => ?_⟩
          cases i' with
          | zero => omega
          | succ i' => exact a5 i' s'' (by omega) (by simpa using c3)
        · rw [pev] at b2
          by_cases hd : o.dst = some t
          · rw [if_pos hd] at b2
            refine .inl ⟨0, _, rfl, hd, b2, fun i' s'' c1 c3 => ?_⟩
            cases i' with
            | zero => omega
            | succ i' => exact b1 i' s'' (by simpa using c3)
          · rw [if_neg hd] at b2
            refine .inr ⟨fun i s' c2 => ?_, b2⟩
            cases i with
            | zero => simp at c2; subst c2; exact hd
            | succ i => exact b1 i s' (by simpa using c2)
      · intro j s hj k
        cases j with
        | zero =>
          simp at hj; subst hj
          refine ⟨(hAt_zero _ _).symm, fun h2 e => ?_⟩
          simp only at e
          subst e
          simp [acts]
        | succ j =>
          simp at hj
          obtain ⟨a1, a2⟩ := q6 j s hj (k + 1)
          cases act with
          | none =>
            simp only at hact; subst hact
            simp only [acts, List.take_succ_cons]
            exact ⟨a1, fun h2 e => by rw [a2 h2 e]; congr 2; omega⟩
          | some x =>
            simp only at hact; subst hact
            simp only [acts, List.take_succ_cons, List.length_cons]
            refine ⟨?_, fun h2 e => by rw [List.getElem?_cons_succ, a2 h2 e]; congr 2; omega⟩
            rw [a1]; rfl
      · intro k
        have := q7 (k + 1)
        cases act with
        | none =>
          simp only at hact; subst hact
          simpa only [acts] using this
        | some x =>
          simp only at hact; subst hact
          simp only [acts, List.length_cons]
          rw [this]; rfl
    simp only [traceOps] at hr
    split at hr
    · cases hr
    · rename_i hg
      split at hr
      · rename_i F1 hput
        split at hr
        · rename_i tr1 r htr
          simp only [Option.some.injEq, Prod.mk.injEq] at hr
          obtain ⟨rfl, rfl⟩ := hr
          exact cons false none undef F1 h tr1 hput ⟨hg, fun _ => ⟨rfl, rfl⟩, fun e => (by cases e), fun h' e => (by cases e), (put_n hput).2.1⟩ rfl htr rfl
        · cases hr
      · cases hr
    · rename_i hg
      split at hr
      · rename_i v hq
        split at hr
        · rename_i F1 hput
          split at hr
          · rename_i tr1 r htr
            simp only [Option.some.injEq, Prod.mk.injEq] at hr
            obtain ⟨rfl, rfl⟩ := hr
            exact cons true none v F1 h tr1 hput ⟨hg, fun e => (by cases e), fun _ _ => hq, fun h' e => (by cases e), (put_n hput).2.1⟩ rfl htr rfl
          · cases hr
        · cases hr
      · split at hr
        · rename_i v h1 hq
          split at hr
          · rename_i F1 hput
            split at hr
            · rename_i tr1 r htr
              simp only [Option.some.injEq, Prod.mk.injEq] at hr
              obtain ⟨rfl, rfl⟩ := hr
              exact cons true (some h1) v F1 h1 tr1 hput ⟨hg, fun e => (by cases e), fun _ e => (by cases e), fun h' e => (by cases e; exact ⟨rfl, hq⟩), (put_n hput).2.1⟩ rfl htr rfl
            · cases hr
          · cases hr
        · cases hr
end Go.Abs
end

section
/- A region whose order is open: every order comes to what the text's own comes to. -/
open Go.RowKit
namespace Go.Abs
variable {B0 : Zn} {w0 : World} {φ : Map} {h h' : AW} {w : World} {P : Program}
theorem maskOf_spec {acc : List Nat} {i : Nat} : ∀ {l : List Edge}, (maskOf acc l).testBit i = true → ∃ e, e ∈ l ∧ Region.binds .any e = true ∧ (i = e.on ∨ (acc.getD e.on 0).testBit i = true)
  | [], h => by simp [maskOf] at h
  | e :: l, h => by
    simp only [maskOf] at h
    split at h
    · rename_i hb
      rw [Nat.testBit_or, Nat.testBit_or, Nat.testBit_two_pow] at h
      simp only [Bool.or_eq_true, decide_eq_true_eq] at h
      rcases h with (h | h) | h
      · exact ⟨e, by simp, hb, .inl h.symm⟩
      · exact ⟨e, by simp, hb, .inr h⟩
      · obtain ⟨e', a, b, c⟩ := maskOf_spec h
        exact ⟨e', by simp [a], b, c⟩
    · obtain ⟨e', a, b, c⟩ := maskOf_spec h
      exact ⟨e', by simp [a], b, c⟩
theorem masks_pre : ∀ (l : List Oper) (acc : List Nat), ∃ r, masks l acc = acc ++ r
  | [], acc => ⟨[], by simp [masks]⟩
  | o :: l, acc => by
    obtain ⟨r, hr⟩ := masks_pre l (acc ++ [maskOf acc o.after.toList])
    exact ⟨maskOf acc o.after.toList :: r, by simp [masks, hr]⟩
theorem masks_at : ∀ (l : List Oper) (acc : List Nat) (k : Nat) (o : Oper), l[k]? = some o → ∃ pre r : List Nat, masks l acc = pre ++ maskOf pre o.after.toList :: r ∧ pre.length = acc.length + k := by
  intro l
  induction l with
  | nil => intro acc k o h; simp at h
  | cons o' l ih =>
    intro acc k o h
    cases k with
    | zero =>
      simp only [List.getElem?_cons_zero, Option.some.injEq] at h
      subst h
      obtain ⟨r, hr⟩ := masks_pre l (acc ++ [maskOf acc o'.after.toList])
      refine ⟨acc, r, ?_, by omega⟩
      rw [masks, hr, List.append_assoc]; rfl
    | succ k =>
      rw [List.getElem?_cons_succ] at h
      obtain ⟨pre, r, a, b⟩ := ih (acc ++ [maskOf acc o'.after.toList]) k o h
      refine ⟨pre, r, ?_, ?_⟩
      · rw [masks]; exact a
      · rw [List.length_append, List.length_singleton] at b; omega
theorem edgesOk_spec {j : Nat} : ∀ {l : List Edge}, edgesOk j l = true → ∀ e, e ∈ l → Region.binds .any e = true → e.on < j
  | e :: l, h, x, hx, hb => by
    simp only [edgesOk, Bool.and_eq_true, Bool.or_eq_true, Bool.not_eq_true'] at h
    rcases List.mem_cons.1 hx with rfl | hm
    · rcases h.1 with h1 | h1
      · rw [hb] at h1; cases h1
      · have := ble_true h1; omega
    · exact edgesOk_spec h.2 x hm hb
theorem rowOk_spec {M : List Nat} {ops : List Oper} {j : Nat} {oj : Oper} : ∀ {l : List Oper} {k : Nat}, rowOk M ops j oj k l = true → ∀ i oi, l[i]? = some oi → pairOk M ops (k + i) oi j oj = true
  | [], k, h, i, oi, hi => by simp at hi
  | o :: l, k, h, i, oi, hi => by
    simp only [rowOk, Bool.and_eq_true] at h
    cases i with
    | zero => simp at hi; subst hi; exact h.1
    | succ i =>
      simp at hi
      have := rowOk_spec h.2 i oi hi
      rwa [show k + 1 + i = k + (i + 1) from by omega] at this
theorem allRows_spec {M : List Nat} {ops : List Oper} : ∀ {l : List Oper} {k : Nat}, allRows M ops k l = true → ∀ j oj, l[j]? = some oj → rowOk M ops (k + j) oj 0 ops = true ∧ edgesOk (k + j) oj.after.toList = true
  | [], k, h, j, oj, hj => by simp at hj
  | o :: l, k, h, j, oj, hj => by
    simp only [allRows, Bool.and_eq_true] at h
    cases j with
    | zero => simp at hj; subst hj; exact h.1
    | succ j =>
      simp at hj
      have := allRows_spec h.2 j oj hj
      rwa [show k + 1 + j = k + (j + 1) from by omega] at this
structure Static (ops : List Oper) : Prop where
  edge : ∀ j oj, ops[j]? = some oj → ∀ e, e ∈ oj.after.toList → Region.binds .any e = true → e.on < j
  mask : ∀ j oj i, ops[j]? = some oj → bef (masks ops []) i j = true → ∃ e, e ∈ oj.after.toList ∧ Region.binds .any e = true ∧ (i = e.on ∨ bef (masks ops []) i e.on = true)
  pair : ∀ i j oi oj, ops[i]? = some oi → ops[j]? = some oj → i ≠ j → ∀ d, oi.dst = some d → oj.dst ≠ some d ∧ (d ∈ readsOf ops oj → (i < j → bef (masks ops []) i j = true) ∧ (j < i → bef (masks ops []) j i = true))
theorem static_of {ops : List Oper} (hs : staticOk ops = true) : Static ops := by
  have hall := fun j oj hj => allRows_spec (k := 0) hs j oj hj
  simp only [Nat.zero_add] at hall
  refine ⟨fun j oj hj e he hb => edgesOk_spec (hall j oj hj).2 e he hb, ?_, ?_⟩
  · intro j oj i hj hb
    obtain ⟨pre, r, a, b⟩ := masks_at ops [] j oj hj
    simp only [List.length_nil, Nat.zero_add] at b
    unfold bef at hb
    rw [show (masks ops []).getD j 0 = maskOf pre oj.after.toList from by rw [a, List.getD_eq_getElem?_getD, List.getElem?_append_right (by omega), b]; simp] at hb
    obtain ⟨e, he, hbi, hc⟩ := maskOf_spec hb
    have hlt := edgesOk_spec (hall j oj hj).2 e he hbi
    refine ⟨e, he, hbi, hc.imp id fun hc => ?_⟩
    unfold bef
    rw [show (masks ops []).getD e.on 0 = pre.getD e.on 0 from by rw [a, List.getD_eq_getElem?_getD, List.getD_eq_getElem?_getD, List.getElem?_append_left (by omega)]]
    exact hc
  · intro i j oi oj hi hj hij d hd
    have hp := rowOk_spec (hall j oj hj).1 i oi hi
    simp only [Nat.zero_add] at hp
    unfold pairOk at hp
    rw [show Nat.beq i j = false from by cases hb : Nat.beq i j with
      | false => rfl
      | true => exact absurd (beq_true hb) hij, hd] at hp
    simp only [Bool.and_eq_true, Bool.not_eq_true', decide_eq_false_iff_not, Bool.or_eq_true] at hp
    refine ⟨hp.1, fun hm => ?_⟩
    rcases hp.2 with h2 | h2
    · have : (readsOf ops oj).contains d = true := by simpa using hm
      rw [h2] at this; cases this
    · constructor
      · intro hlt
        rw [show Nat.ble (i + 1) j = true from Nat.ble_eq_true_of_le hlt] at h2
        exact h2
      · intro hlt
        rw [show Nat.ble (i + 1) j = false from by cases hb : Nat.ble (i + 1) j with
          | false => rfl
          | true => have := ble_true hb; omega] at h2
        exact h2
theorem acts_at : ∀ (l : List St) (k m i : Nat) (h : AW), (acts k l)[m]? = some (i, h) → k ≤ i ∧ (∃ s, l[i - k]? = some s ∧ s.act = some h) ∧ m = (acts k (l.take (i - k))).length
  | [], k, m, i, h, hm => by simp [acts] at hm
  | s :: l, k, m, i, h, hm => by
    simp only [acts] at hm
    cases ha : s.act with
    | none =>
      rw [ha] at hm
      obtain ⟨a, ⟨s', b, c⟩, d⟩ := acts_at l (k + 1) m i h hm
      have e : i - k = (i - (k + 1)) + 1 := by omega
      refine ⟨by omega, ⟨s', by rw [e]; simpa using b, c⟩, ?_⟩
      rw [e, List.take_succ_cons]
      simp only [acts, ha]
      exact d
    | some x =>
      rw [ha] at hm
      cases m with
      | zero =>
        simp at hm
        obtain ⟨rfl, rfl⟩ := hm
        exact ⟨Nat.le_refl _, ⟨s, by simp, ha⟩, by simp [acts]⟩
      | succ m =>
        simp at hm
        obtain ⟨a, ⟨s', b, c⟩, d⟩ := acts_at l (k + 1) m i h hm
        have e : i - k = (i - (k + 1)) + 1 := by omega
        refine ⟨by omega, ⟨s', by rw [e]; simpa using b, c⟩, ?_⟩
        rw [e, List.take_succ_cons]
        simp only [acts, ha, List.length_cons]
        omega
theorem hAt_succ : ∀ (h : AW) (As : List (Nat × AW)) (k : Nat) (p : Nat × AW), As[k]? = some p → hAt h As (k + 1) = p.2
  | h, [], k, p, hk => by simp at hk
  | h, q :: l, 0, p, hk => by simp at hk; subst hk; simp [hAt, hAt_zero]
  | h, q :: l, k + 1, p, hk => by simp at hk; simp only [hAt]; exact hAt_succ q.2 l k p hk
theorem noneBef_spec {M : List Nat} {j : Nat} : ∀ {As : List (Nat × AW)}, (∀ (m : Nat) (p : Nat × AW), As[m]? = some p → bef M p.1 j = false) → noneBef M j As = true
  | [], _ => rfl
  | p :: l, h => by
    simp only [noneBef, Bool.and_eq_true, Bool.not_eq_true']
    exact ⟨h 0 p rfl, noneBef_spec fun m q hq => h (m + 1) q (by simpa using hq)⟩
theorem chk_spec {M : List Nat} {j own : Nat} {check : AW → Bool} : ∀ (As : List (Nat × AW)) (cur : Nat) (h : AW) (k : Nat), chkFrom M j check own cur h As = true → k ≤ As.length → (∀ (m : Nat) (p : Nat × AW), m < k → As[m]? = some p → bef M j p.1 = false) →
    (∀ (m : Nat) (p : Nat × AW), k ≤ m → As[m]? = some p → bef M p.1 j = false) → cur + k = own ∨ check (hAt h As k) = true
  | [], cur, h, k, hc, hk, _, _ => by
    have : k = 0 := by simpa using hk
    subst this
    simp only [chkFrom, Bool.or_eq_true] at hc
    exact hc.imp (fun e => beq_true e) id
  | p :: l, cur, h, 0, hc, hk, _, h2 => by
    simp only [chkFrom, Bool.and_eq_true, Bool.or_eq_true, Bool.not_eq_true'] at hc
    rcases hc.1 with (h1 | h1) | h1
    · exact .inl (beq_true h1)
    · rw [noneBef_spec fun m q hq => h2 m q (by omega) hq] at h1; cases h1
    · exact .inr h1
  | p :: l, cur, h, k + 1, hc, hk, h1, h2 => by
    simp only [chkFrom, Bool.and_eq_true, Bool.or_eq_true] at hc
    rcases hc.2 with hb | hb
    · rw [h1 0 p (by omega) rfl] at hb; cases hb
    · rcases chk_spec l (cur + 1) p.2 k hb (by simpa using hk) (fun m q hm hq => h1 (m + 1) q (by omega) (by simpa using hq)) (fun m q hm hq => h2 (m + 1) q (by omega) (by simpa using hq)) with e | e
      · exact .inl (by omega)
      · exact .inr e
theorem chain_spec {M : List Nat} : ∀ {As : List (Nat × AW)}, chainOk M As = true → ∀ (m : Nat) (p q : Nat × AW), As[m]? = some p → As[m + 1]? = some q → bef M p.1 q.1 = true
  | [], h, m, p, q, hp, hq => by simp at hp
  | a :: l, h, m, p, q, hp, hq => by
    simp only [chainOk, Bool.and_eq_true] at h
    cases m with
    | zero =>
      simp at hp; subst hp
      cases l with
      | nil => simp at hq
      | cons b l => simp at hq; subst hq; exact h.1
    | succ m =>
      simp at hp
      have hq' : l[m + 1]? = some q := by simpa using hq
      exact chain_spec h.2 m p q hp hq'
theorem sts_spec {M : List Nat} {h : AW} {As : List (Nat × AW)} : ∀ {l : List St} {own k : Nat}, stsOk P M h As own k l = true → ∀ (j : Nat) (s : St), l[j]? = some s → stOk P M h As (own + (acts 0 (l.take j)).length) (k + j) s = true
  | [], own, k, hs, j, s, hj => by simp at hj
  | s' :: l, own, k, hs, j, s, hj => by
    simp only [stsOk, Bool.and_eq_true] at hs
    cases j with
    | zero => simp at hj; subst hj; exact hs.1
    | succ j =>
      simp at hj
      have := sts_spec hs.2 j s hj
      rw [show k + 1 + j = k + (j + 1) from by omega] at this
      rw [List.take_succ_cons]
      simp only [acts]
      cases ha : s'.act with
      | none => rw [ha] at this; simp only at this ⊢; rw [acts_length 1 0]; exact this
      | some x => rw [ha] at this; simp only [List.length_cons] at this ⊢; rw [acts_length 1 0, show own + ((acts 0 (l.take j)).length + 1) = own + 1 + (acts 0 (l.take j)).length from by omega]; exact this
theorem opQ_still {F : Fr} {h h' : AW} {o : Op} (hl : looks o = false) : opQ P F h o = opQ P F h' o := by
  cases o <;> first | (simp [looks] at hl; done) | rfl
def unl (listed : Array Bool) : Nat := listed.toList.countP (!·)
theorem unl_set {listed : Array Bool} {j : Nat} (hj : listed[j]? = some false) : unl listed = unl (listed.setIfInBounds j true) + 1 := by
  unfold unl
  rw [Array.toList_setIfInBounds]
  have hj' : listed.toList[j]? = some false := by simpa using hj
  clear hj
  generalize listed.toList = l at hj'
  induction l generalizing j with
  | nil => simp at hj'
  | cons b l ih =>
    cases j with
    | zero => simp at hj'; subst hj'; simp
    | succ j =>
      simp at hj'
      simp only [List.set_cons_succ, List.countP_cons]
      have := ih hj'
      omega
end Go.Abs
end

section
/- Walks, first part: what must hold for an operation to come to what is wanted. -/
namespace Go.Abs
def oB {α : Type} (x : Option α) (f : α → Prop) : Prop := match x with | some a => f a | none => False
def oP (x : Option (Value × AW)) (f : Value → AW → Prop) : Prop := match x with | some (v, h) => f v h | none => False
def bC (b : Bool) (p q : Prop) : Prop := match b with | true => p | false => q
def vInt (k : IntKind) (v : Value) (f : Int → Prop) : Prop := match v with | .int k' n => bC (decide (k' = k)) (f n) False | _ => False
def vBool (v : Value) (f : Bool → Prop) : Prop := match v with | .bool b => f b | _ => False
def vStr (v : Value) (f : ByteArray → Prop) : Prop := match v with | .string s => f s | _ => False
def vPtr (v : Value) (f : Option Addr → Prop) : Prop := match v with | .pointer p => f p | _ => False
def vSl (v : Value) (f : Option Addr → Nat → Nat → Prop) : Prop := match v with | .slice a l c => f a l c | _ => False
def vMap (v : Value) (f : Option Nat → Prop) : Prop := match v with | .map r => f r | _ => False
def vFun (v : Value) (f : FuncId → List Value → List Value → Prop) : Prop := match v with | .func (.func i) a b => f i a.toList b.toList | _ => False
def vIfc (v : Value) (p : Prop) (f : TypeId → Value → Prop) : Prop := match v with | .nilIface => p | .iface t x => f t x | _ => False
def vAgg (v : Value) (f : List Value → Prop) : Prop := match v with | .agg cs => f cs.toList | _ => False
def vTup (v : Value) (f : List Value → Prop) : Prop := match v with | .tuple cs => f cs.toList | _ => False
def lC (l : List Value) (f : Value → List Value → Prop) : Prop := match l with | v :: l => f v l | [] => False
def lN (l : List Value) (p : Prop) : Prop := match l with | [] => p | _ => False
def aP (p : Option Addr) (f : Nat → Nat → Prop) : Prop := match p with | some ⟨i, off, none⟩ => f i off | _ => False
def nilI : Value → Option Bool
  | .nilIface => some true
  | .iface _ _ => some false
  | _ => none
def nilF : Value → Option Bool
  | .nilFunc => some true
  | .func _ _ _ => some false
  | _ => none
def natIdx (z : Int) (n : Nat) : Option Nat :=
  match z with
  | .ofNat i => match Nat.ble (i + 1) n with | true => some i | false => none
  | _ => none
def natBnd (z : Int) (n : Nat) : Option Nat :=
  match z with
  | .ofNat i => match Nat.ble i n with | true => some i | false => none
  | _ => none
def shO (a : Option Addr) (n : Nat) : Option (Option Addr) :=
  match a with
  | none => some none
  | some ⟨b, off, none⟩ => some (some ⟨b, off + n, none⟩)
  | _ => none
def bAt (s : ByteArray) (i : Nat) : Option Int := match s.data[i]? with | some b => some (b.toNat : Int) | none => none
def bSub (s : ByteArray) (lo hi : Nat) : ByteArray := ⟨⟨(s.data.toList.drop lo).take (hi - lo)⟩⟩
def bEq (x y : ByteArray) : Bool := x.data.toList == y.data.toList
def AW.addVar (h : AW) (cells : List Value) : AW := { h with next := h.next + 1, objs := h.objs.set h.next (.var (T.ofList cells) cells.length false) }
def AW.addMap (h : AW) : AW := { h with next := h.next + 1, objs := h.objs.set h.next (.map []), its := h.its.set h.next 2 }
def AW.mapL (h : AW) (r : Option Nat) : Option (List (Value × Value)) :=
  match r with
  | none => some []
  | some r => match h.objs.get? r with
    | some (.map es) => some es
    | _ => none
def AW.bytes (h : AW) (a : Option Addr) (len : Nat) : Option ByteArray :=
  match a with
  | none => some .empty
  | some ⟨i, off, none⟩ => match h.rdN i off len with
    | some l => match bytesV l with
      | some bs => some ⟨⟨bs⟩⟩
      | none => none
    | none => none
  | _ => none
theorem oB_ok {α : Type} {x : Option α} {f : α → Prop} (h : oB x f) : ∃ a, x = some a ∧ f a := by
  unfold oB at h; split at h
  · exact ⟨_, rfl, h⟩
  · exact h.elim
theorem oP_ok {x : Option (Value × AW)} {f : Value → AW → Prop} (h : oP x f) : ∃ v h', x = some (v, h') ∧ f v h' := by
  unfold oP at h; split at h
  · exact ⟨_, _, rfl, h⟩
  · exact h.elim
theorem bC_ok {b : Bool} {p q : Prop} (h : bC b p q) : (b = true ∧ p) ∨ (b = false ∧ q) := by
  unfold bC at h; cases b
  · exact .inr ⟨rfl, h⟩
  · exact .inl ⟨rfl, h⟩
theorem vInt_ok {k : IntKind} {v : Value} {f : Int → Prop} (h : vInt k v f) : ∃ n, v = .int k n ∧ f n := by
  unfold vInt at h; split at h
  · rcases bC_ok h with ⟨e, x⟩ | ⟨_, x⟩
    · have := of_decide_eq_true e; subst this; exact ⟨_, rfl, x⟩
    · exact x.elim
  · exact h.elim
theorem vBool_ok {v : Value} {f : Bool → Prop} (h : vBool v f) : ∃ b, v = .bool b ∧ f b := by
  unfold vBool at h; split at h
  · exact ⟨_, rfl, h⟩
  · exact h.elim
theorem vStr_ok {v : Value} {f : ByteArray → Prop} (h : vStr v f) : ∃ b, v = .string b ∧ f b := by
  unfold vStr at h; split at h
  · exact ⟨_, rfl, h⟩
  · exact h.elim
theorem vPtr_ok {v : Value} {f : Option Addr → Prop} (h : vPtr v f) : ∃ b, v = .pointer b ∧ f b := by
  unfold vPtr at h; split at h
  · exact ⟨_, rfl, h⟩
  · exact h.elim
theorem vSl_ok {v : Value} {f : Option Addr → Nat → Nat → Prop} (h : vSl v f) : ∃ a l c, v = .slice a l c ∧ f a l c := by
  unfold vSl at h; split at h
  · exact ⟨_, _, _, rfl, h⟩
  · exact h.elim
theorem vMap_ok {v : Value} {f : Option Nat → Prop} (h : vMap v f) : ∃ b, v = .map b ∧ f b := by
  unfold vMap at h; split at h
  · exact ⟨_, rfl, h⟩
  · exact h.elim
theorem vFun_ok {v : Value} {f : FuncId → List Value → List Value → Prop} (h : vFun v f) : ∃ i a b, v = .func (.func i) a b ∧ f i a.toList b.toList := by
  unfold vFun at h; split at h
  · exact ⟨_, _, _, rfl, h⟩
  · exact h.elim
theorem vIfc_ok {v : Value} {p : Prop} {f : TypeId → Value → Prop} (h : vIfc v p f) : (v = .nilIface ∧ p) ∨ ∃ t x, v = .iface t x ∧ f t x := by
  unfold vIfc at h; split at h
  · exact .inl ⟨rfl, h⟩
  · exact .inr ⟨_, _, rfl, h⟩
  · exact h.elim
theorem vAgg_ok {v : Value} {f : List Value → Prop} (h : vAgg v f) : ∃ cs : Array Value, v = .agg cs ∧ f cs.toList := by
  unfold vAgg at h; split at h
  · exact ⟨_, rfl, h⟩
  · exact h.elim
theorem vTup_ok {v : Value} {f : List Value → Prop} (h : vTup v f) : ∃ cs : Array Value, v = .tuple cs ∧ f cs.toList := by
  unfold vTup at h; split at h
  · exact ⟨_, rfl, h⟩
  · exact h.elim
theorem lC_ok {l : List Value} {f : Value → List Value → Prop} (h : lC l f) : ∃ v r, l = v :: r ∧ f v r := by
  unfold lC at h; split at h
  · exact ⟨_, _, rfl, h⟩
  · exact h.elim
theorem lN_ok {l : List Value} {p : Prop} (h : lN l p) : l = [] ∧ p := by
  unfold lN at h; split at h
  · exact ⟨rfl, h⟩
  · exact h.elim
theorem aP_ok {p : Option Addr} {f : Nat → Nat → Prop} (h : aP p f) : ∃ i off, p = some ⟨i, off, none⟩ ∧ f i off := by
  unfold aP at h; split at h
  · exact ⟨_, _, rfl, h⟩
  · exact h.elim
section
variable (P : Program)
def castD (d : TypeDesc) (v : Value) (K : Value → Prop) : Prop :=
  match d with
  | .int k => vInt k v fun n => K (.int k n)
  | .bool => vBool v fun b => K (.bool b)
  | .string => vStr v fun s => K (.string s)
  | .pointer _ => vPtr v fun p => K (.pointer p)
  | .unsafePointer => vPtr v fun p => K (.pointer p)
  | .slice _ => vSl v fun a l c => K (.slice a l c)
  | .map _ _ => vMap v fun r => K (.map r)
  | .interface _ => vIfc v (K .nilIface) fun t x => K (.iface t x)
  | _ => K v
def descsL (f : TypeId → Option (List TypeDesc)) : List TypeId → Option (List TypeDesc)
  | [] => some []
  | t :: l => match f t, descsL f l with | some a, some b => some (a ++ b) | _, _ => none
def descs : Nat → TypeId → Option (List TypeDesc)
  | 0, _ => none
  | n + 1, t => match tiOf P t with
    | some ti => match ti.und with
      | .struct fs => descsL (descs n) (fs.toList.map Field.type)
      | .array len e => descsL (descs n) (List.replicate len e)
      | d => some [d]
    | none => none
def castL : List TypeDesc → List Value → (List Value → Prop) → Prop
  | [], l, K => lN l (K [])
  | d :: ds, l, K => lC l fun v l => castD d v fun v => castL ds l fun r => K (v :: r)
def castT (t : TypeId) (v : Value) (K : Value → Prop) : Prop :=
  match tiOf P t with
  | some ti => match ti.agg with
    | true => match descs P 8 t with
      | some ds => vAgg v fun l => castL ds l fun l => K (.agg ⟨l⟩)
      | none => False
    | false => castD ti.und v K
  | none => False
def castR (ts : List TypeId) (v : Value) (K : Value → Prop) : Prop :=
  match ts with
  | [] => K v
  | [t] => castT P t v K
  | ts => vTup v fun l => go ts l fun l => K (.tuple ⟨l⟩)
  where
  go : List TypeId → List Value → (List Value → Prop) → Prop
    | [], l, K => lN l (K [])
    | t :: ts, l, K => lC l fun v l => castT P t v fun v => go ts l fun r => K (v :: r)
def rdCast (h : AW) (i : Nat) : Nat → List TypeDesc → (List Value → Prop) → Prop
  | _, [], K => K []
  | off, d :: ds, K => oB (h.rd i off) fun v => castD d v fun v => rdCast h i (off + 1) ds fun r => K (v :: r)
def kLoad (h : AW) (t : TypeId) (a : Value) (K : Value → Prop) : Prop :=
  match tiOf P t with
  | some ti => vPtr a fun p => aP p fun i off => match ti.agg with
    | true => match descs P 8 t with
      | some ds => match Nat.beq ds.length ti.size with
        | true => rdCast h i off ds fun l => K (.agg ⟨l⟩)
        | false => False
      | none => False
    | false => oB (h.rd i off) fun v => castD ti.und v K
  | none => False
def kNil (v : Value) (K : Value → Prop) : Prop :=
  match v with
  | .pointer p => aP p fun i off => K (ptr i off)
  | v => oB (nilCheckV v) fun v => K v
def isNilC : Operand → Bool
  | .const v => match v with
    | .pointer none | .slice none _ _ | .map none | .nilFunc | .nilIface => true
    | _ => false
  | _ => false
def cellB : TypeDesc → Value → Value → Option Bool
  | .bool, .bool a, .bool b => some (a == b)
  | .int _, .int k a, .int k' b => match decide (k = k') with | true => some (a == b) | false => none
  | .string, .string a, .string b => some (bEq a b)
  | _, _, _ => none
def fieldsB : List Field → List Value → List Value → Option Bool
  | [], [], [] => some true
  | f :: fs, x :: xs, y :: ys => match P.underlying f.type with
    | some d => match cellB d x y, fieldsB fs xs ys with
      | some a, some b => some (a && b)
      | _, _ => none
    | none => none
  | _, _, _ => none
def eqNil (d : TypeDesc) (w : Value) (v : Value) (K : Bool → Prop) : Prop :=
  match d, w with
  | .pointer _, .pointer none => vPtr v fun p => K p.isNone
  | .slice _, .slice none _ _ => vSl v fun a _ _ => K a.isNone
  | .map _ _, .map none => vMap v fun r => K r.isNone
  | .interface _, .nilIface => oB (nilI v) K
  | .func _ _ _, .nilFunc => oB (nilF v) K
  | _, _ => False
def kEq (t : TypeId) (x y : Operand) (vx vy : Value) (K : Bool → Prop) : Prop :=
  match tiOf P t with
  | some ti => match isNilC y with
    | true => eqNil ti.und vy vx K
    | false => match isNilC x with
      | true => eqNil ti.und vx vy K
      | false => match ti.und with
        | .bool => vBool vx fun a => vBool vy fun b => K (a == b)
        | .struct fs => match plainEq P t fs with
          | true => vAgg vx fun xs => vAgg vy fun ys => match fieldsB P fs.toList xs ys with
            | some b => K b
            | none => False
          | false => False
        | _ => oB (eqV P t (isConst x || isConst y) vx vy) K
  | none => False
def kInt (op : BinOp) (k : IntKind) (x y : Int) (K : Value → Prop) : Prop :=
  match op with
  | .quo => bC (decide (y = 0)) False (K (.int k (k.wrap (x.tdiv y))))
  | .rem => bC (decide (y = 0)) False (K (.int k (x.tmod y)))
  | .eql => K (.bool (x == y))
  | .neq => K (.bool (x != y))
  | .add => K (.int k (k.wrap (x + y)))
  | .sub => K (.int k (k.wrap (x - y)))
  | .mul => K (.int k (k.wrap (x * y)))
  | .lss => K (.bool (x < y))
  | .leq => K (.bool (x ≤ y))
  | .gtr => K (.bool (x > y))
  | .geq => K (.bool (x ≥ y))
  | op => match intBin op k x y with | some v => K v | none => False
def kStr (op : BinOp) (x y : ByteArray) (K : Value → Prop) : Prop :=
  match op with
  | .add => bC (Nat.ble (x.size + y.size) 9223372036854775807) (K (.string (x ++ y))) False
  | .eql => K (.bool (bEq x y))
  | .neq => K (.bool !(bEq x y))
  | op => match strBin op x y with | some v => K v | none => False
def kBin0 (op : BinOp) (t : TypeId) (x y : Operand) (vx vy : Value) (K : Value → Prop) : Prop :=
  match vx, vy with
  | .int k a, .int k' b => match op with
    | .shl => bC (decide (b < 0)) False (K (.int k (k.wrap (a * 2 ^ (min b.toNat k.bits)))))
    | .shr => bC (decide (b < 0)) False (K (.int k (a.fdiv (2 ^ (min b.toNat k.bits)))))
    | op => match decide (k = k') with | true => kInt op k a b K | false => False
  | .string a, .string b => kStr op a b K
  | vx, vy => match op with
    | .eql => kEq P t x y vx vy fun b => K (.bool b)
    | .neq => kEq P t x y vx vy fun b => K (.bool !b)
    | _ => False
def kBin (op : BinOp) (t : TypeId) (x y : Operand) (vx vy : Value) (K : Value → Prop) : Prop :=
  match isNilC y, vy with
  | true, .nilIface => (match op with
    | .eql => kEq P t x y vx .nilIface fun b => K (.bool b)
    | .neq => kEq P t x y vx .nilIface fun b => K (.bool !b)
    | _ => False)
  | true, .nilFunc => (match op with
    | .eql => kEq P t x y vx .nilFunc fun b => K (.bool b)
    | .neq => kEq P t x y vx .nilFunc fun b => K (.bool !b)
    | _ => False)
  | _, vy => kBin0 P op t x y vx vy K
def kConv (h : AW) (s d : TypeId) (x : Value) (K : Value → AW → Prop) : Prop :=
  match tiOf P s, tiOf P d with
  | some si, some di => match di.und with
    | .int k => (match x with | .int _ n => K (.int k (k.wrap n)) h | _ => False)
    | .string => (match x with
      | .int _ n => K (.string (Utf8.encode n)) h
      | .string b => K (.string b) h
      | .slice a len _ => (match si.und with
        | .slice e => match tiOf P e with
          | some te => match te.und with
            | .int .u8 => oB (h.bytes a len) fun s => K (.string s) h
            | _ => False
          | none => False
        | _ => False)
      | _ => False)
    | .slice _ => oP (convA P h s d x) fun v h => vSl v fun a l c => K (.slice a l c) h
    | .unsafePointer => (match x with
      | .pointer p => oP (convA P h s d (.pointer p)) fun v h => vPtr v fun p => K (.pointer p) h
      | _ => False)
    | .pointer _ => (match x with
      | .pointer p => oP (convA P h s d (.pointer p)) fun v h => vPtr v fun p => K (.pointer p) h
      | _ => False)
    | _ => False
  | _, _ => False
def kBnd (x : Option Value) (n dflt : Nat) (K : Nat → Prop) : Prop :=
  match x with
  | none => K dflt
  | some v => match v with
    | .int _ z => oB (natBnd z n) K
    | _ => False
def kSlice (h : AW) (t : TypeId) (x : Value) (lo hi : Option Value) (K : Value → Prop) : Prop :=
  match tiOf P t with
  | some ti => match ti.und with
    | .string => vStr x fun s => kBnd hi s.size s.size fun hi => kBnd lo hi 0 fun lo => K (.string (bSub s lo hi))
    | .slice elem => match tiOf P elem with
      | some te => vSl x fun a len cap => kBnd hi cap len fun hi => kBnd lo hi 0 fun l => bC (Nat.ble hi cap) (oB (shO a (l * te.size)) fun a => K (.slice a (hi - l) (cap - l))) False
      | none => False
    | _ => oB (sliceQ P h t x lo hi) fun v => vSl v fun a l c => K (.slice a l c)
  | none => False
def kFieldAddr (t : TypeId) (x : Value) (f : Nat) (K : Value → Prop) : Prop :=
  match tiOf P t with
  | some ti => match ti.und with
    | .struct fs => match fs[f]? with
      | some fd => match tiOf P fd.type with
        | some tf => match Nat.beq tf.size 0 with
          | true => False
          | false => vPtr x fun p => aP p fun b off => K (ptr b (off + fd.offset))
        | none => False
      | none => False
    | _ => False
  | none => False
def kIndexAddr (t : TypeId) (x i : Value) (K : Value → Prop) : Prop :=
  match tiOf P t, i with
  | some ti, .int _ z => match ti.und with
    | .array len elem => match tiOf P elem with
      | some te => vPtr x fun p => aP p fun b off => oB (natIdx z len) fun j => K (ptr b (off + j * te.size))
      | none => False
    | .slice elem => match tiOf P elem with
      | some te => vSl x fun a len _ => aP a fun b off => oB (natIdx z len) fun j => K (ptr b (off + j * te.size))
      | none => False
    | _ => False
  | _, _ => False
def kIndex (t : TypeId) (x i : Value) (K : Value → Prop) : Prop :=
  match tiOf P t, i with
  | some ti, .int _ z => match ti.und with
    | .string => vStr x fun s => oB (natIdx z s.size) fun j => oB (bAt s j) fun b => K (.int .u8 b)
    | .array _ e => oB (indexV P t x i) fun v => castT P e v K
    | _ => False
  | _, _ => False
def kLookup (h : AW) (t : TypeId) (m k : Value) (ok : Bool) (K : Value → Prop) : Prop :=
  match tiOf P t with
  | some ti => match ti.und with
    | .map kt et => match tiOf P kt, tiOf P et with
      | some tk, some te => match keyKind tk.und, te.zero with
        | true, some z => vMap m fun r => oB (h.mapL r) fun es => oB (look tk.und k es) fun w =>
          castT P et (w.getD z) fun v => match ok with
            | true => K (.tuple ⟨[v, .bool w.isSome]⟩)
            | false => K v
        | _, _ => False
      | _, _ => False
    | _ => False
  | none => False
def kQ (o : Op) (F : Fr) (h : AW) (K : Value → Prop) : Prop :=
  match o with
  | .move x => K (F.ev x)
  | .assign x => K (F.ev x)
  | .pick c a b => vBool (F.ev c) fun x => bC x (K (F.ev a)) (K (F.ev b))
  | .build t parts => match buildV P t (parts.toList.map fun p => (p.1, F.ev p.2)) with | some v => K v | none => False
  | .load t a => kLoad P h t (F.ev a) K
  | .nilCheck x => kNil (F.ev x) K
  | .binOp op t x y _ => kBin P op t x y (F.ev x) (F.ev y) K
  | .unOp op _ x => match unV op (F.ev x) with | some v => K v | none => False
  | .makeInterface t x => match tiOf P t with
    | some ti => (match ti.und with | .interface _ => False | _ => K (.iface t (F.ev x)))
    | none => False
  | .makeFunc fn first captured => K (.func fn ⟨vals F first⟩ ⟨vals F captured⟩)
  | .slice t x lo hi none => kSlice P h t (F.ev x) (lo.map F.ev) (hi.map F.ev) K
  | .fieldAddr t x f => kFieldAddr P t (F.ev x) f K
  | .field t x f => match fieldV P t (F.ev x) f with | some v => K v | none => False
  | .indexAddr t x i => kIndexAddr P t (F.ev x) (F.ev i) K
  | .index t x i => kIndex P t (F.ev x) (F.ev i) K
  | .lookup t m k ok => kLookup P h t (F.ev m) (F.ev k) ok K
  | .extract x i => match F.ev x with | .tuple vs => (match vs.toList[i]? with | some v => K v | none => False) | _ => False
  | _ => False
def kLen (h : AW) (t : TypeId) (x : Value) (K : Value → Prop) : Prop :=
  match tiOf P t with
  | some ti => match ti.und with
    | .string => vStr x fun s => K (goInt s.size)
    | .slice _ => vSl x fun _ n _ => K (goInt n)
    | .map _ _ => vMap x fun r => oB (h.mapL r) fun es => K (goInt es.length)
    | .array n _ => K (goInt n)
    | _ => oB (lenB P h #[t] [x]) fun v => vInt .i64 v fun n => K (.int .i64 n)
  | none => False
def kBuiltin (b : Builtin) (ts : Array TypeId) (args : List Value) (h : AW) (K : Value → AW → Prop) : Prop :=
  match b with
  | .len => match ts.toList, args with
    | [t], [x] => kLen P h t x fun v => K v h
    | _, _ => False
  | .cap => oB (capB P h ts args) fun v => vInt .i64 v fun n => K (.int .i64 n) h
  | .min => match args with | x :: l => (match minL x l with | some v => K v h | none => False) | [] => False
  | .max => match args with | x :: l => (match maxL x l with | some v => K v h | none => False) | [] => False
  | .append => oP (appendB P h ts args) fun v h => vSl v fun a l c => K (.slice a l c) h
  | .copy => oP (copyB P h ts args) fun v h => vInt .i64 v fun n => K (.int .i64 n) h
  | .delete => oP (deleteB P h ts args) K
  | .clear => oP (clearB P h ts args) K
  | .unsafeString => oP (ustrB P h ts args) fun v h => vStr v fun s => K (.string s) h
  | .unsafeSliceData => match args with
    | [x] => vSl x fun a l c => oB (sdataB [.slice a l c]) fun v => vPtr v fun p => K (.pointer p) h
    | _ => False
  | _ => False
def AW.iterAt (h : AW) (i off : Nat) : Bool := Nat.beq off 0 && (match h.its.get? i with | some k => Nat.beq k 1 | none => false)
def kA (o : Op) (F : Fr) (h : AW) (K : Value → AW → Prop) : Prop :=
  match o with
  | .alloc t => match tiOf P t with
    | some ti => match ti.zero with
      | some z => match allOne z.cells.toList with
        | true => (match selfT P t with
          | true => K (ptr h.next 0) ((h.addVar z.cells.toList).tag h.next t)
          | false => K (ptr h.next 0) (h.addVar z.cells.toList))
        | false => False
      | none => False
    | none => False
  | .box _ x => match allOne (F.ev x).cells.toList with
    | true => K (ptr h.next 0) (h.addVar (F.ev x).cells.toList)
    | false => False
  | .buildSlice t len parts => match tiOf P t with
    | some ti => match ti.und with
      | .slice elem => match tiOf P elem with
        | some te => match te.zero, Nat.ble (len * te.size) 16777216 with
          | some z, true => match Nat.beq z.cells.size te.size with
            | true => match Instr.fill (fun i => some (i * te.size, te.size)) ⟨rep z.cells.toList len⟩ (parts.toList.map fun p => (p.1, F.ev p.2)) with
              | some cs => match allOne cs.toList with
                | true => K (.slice (some ⟨h.next, 0, none⟩) len len) (h.addVar cs.toList)
                | false => False
              | none => False
            | false => False
          | _, _ => False
        | none => False
      | _ => False
    | none => False
  | .store t a x => match tiOf P t with
    | some ti => vPtr (F.ev a) fun p => aP p fun i off => match F.ev x with
      | .agg cs => match Nat.beq cs.size ti.size with
        | true => oB (h.wrL i off cs.toList) fun h => K undef h
        | false => False
      | v => match Nat.beq ti.size 1 with
        | true => oB (h.wr i off v) fun h => K undef h
        | false => False
    | none => False
  | .convert s d x => kConv P h s d (F.ev x) K
  | .makeMap _ none => K (.map (some h.next)) h.addMap
  | .makeMap t (some x) => oP (opA P F h (.makeMap t (some x))) fun v h => vMap v fun r => K (.map r) h
  | .makeSlice t l c => oP (makeSliceV P h t (F.ev l) (F.ev c)) fun v h => vSl v fun a l c => K (.slice a l c) h
  | .slice t x lo hi (some mx) => oP (sliceA P h t (F.ev x) (lo.map F.ev) (hi.map F.ev) (F.ev mx)) fun v h => vSl v fun a l c => K (.slice a l c) h
  | .mapUpdate t m k v => oB (mapUpdV P h t (F.ev m) (F.ev k) (F.ev v)) fun h => K undef h
  | .insert t m k v => oB (mapUpdV P h t (F.ev m) (F.ev k) (F.ev v)) fun h => K undef h
  | .mapEntry t m k => kLookup P h t (F.ev m) (F.ev k) false fun old => oB (mapIx P h t (F.ev m) (F.ev k)) fun j => oB (mapUpdV P h t (F.ev m) (F.ev k) old) fun h => K (.tuple #[old, .int .i64 j]) h
  | .entryStore _ m s x => match F.ev s with
    | .int .i64 z => oB (mapPutV h (F.ev m) z (F.ev x)) fun h => K undef h
    | _ => False
  | .call { callee := .builtin b, args, argTypes } => kBuiltin P b argTypes (vals F args) h K
  | .range t x => match tiOf P t with
    | some ti => match ti.und with
      | .map _ _ => vMap (F.ev x) fun r => bC (Option.isNone r) (K (ptr h.next 0) (AW.newIter h)) False
      | _ => False
    | none => False
  | .next it false => vPtr (F.ev it) fun p => aP p fun i off => bC (AW.iterAt h i off) (K (.tuple #[.bool false]) h) False
  | o => kQ P o F h fun v => K v h
end
end Go.Abs
end

section
/- Walks, second part: the words are right. -/
namespace Go.Abs
variable {P : Program} {F : Fr} {h : AW}
theorem castD_ok {d : TypeDesc} {v : Value} {K : Value → Prop} (H : castD d v K) : K v := by
  unfold castD at H
  split at H
  · obtain ⟨n, rfl, x⟩ := vInt_ok H; exact x
  · obtain ⟨n, rfl, x⟩ := vBool_ok H; exact x
  · obtain ⟨n, rfl, x⟩ := vStr_ok H; exact x
  · obtain ⟨n, rfl, x⟩ := vPtr_ok H; exact x
  · obtain ⟨n, rfl, x⟩ := vPtr_ok H; exact x
  · obtain ⟨a, l, c, rfl, x⟩ := vSl_ok H; exact x
  · obtain ⟨n, rfl, x⟩ := vMap_ok H; exact x
  · rcases vIfc_ok H with ⟨rfl, x⟩ | ⟨t, y, rfl, x⟩ <;> exact x
  · exact H
theorem castL_ok : ∀ {ds : List TypeDesc} {l : List Value} {K : List Value → Prop}, castL ds l K → K l
  | [], l, K, H => by
    obtain ⟨rfl, x⟩ := lN_ok H
    exact x
  | d :: ds, l, K, H => by
    obtain ⟨v, r, rfl, x⟩ := lC_ok H
    exact castL_ok (K := fun r => K (v :: r)) (castD_ok (K := fun v => castL ds r fun r => K (v :: r)) x)
theorem castT_ok {t : TypeId} {v : Value} {K : Value → Prop} (H : castT P t v K) : K v := by
  unfold castT at H
  split at H
  · split at H
    · split at H
      · obtain ⟨cs, rfl, x⟩ := vAgg_ok H
        exact castL_ok x
      · exact H.elim
    · exact castD_ok H
  · exact H.elim
theorem castRgo_ok : ∀ {ts : List TypeId} {l : List Value} {K : List Value → Prop}, castR.go P ts l K → K l
  | [], l, K, H => by
    obtain ⟨rfl, x⟩ := lN_ok H
    exact x
  | d :: ds, l, K, H => by
    obtain ⟨v, r, rfl, x⟩ := lC_ok H
    exact castRgo_ok (K := fun r => K (v :: r)) (castT_ok (K := fun v => castR.go P ds r fun r => K (v :: r)) x)
theorem rdCast_ok {i : Nat} : ∀ {ds : List TypeDesc} {off : Nat} {K : List Value → Prop}, rdCast h i off ds K → ∃ l, h.rdN i off ds.length = some l ∧ K l
  | [], off, K, H => ⟨[], rfl, H⟩
  | d :: ds, off, K, H => by
    obtain ⟨v, e, x⟩ := oB_ok H
    obtain ⟨l, e', x⟩ := rdCast_ok (castD_ok x)
    refine ⟨v :: l, ?_, x⟩
    simp only [List.length_cons, AW.rdN, e, e']
theorem kLoad_ok {t : TypeId} {a : Value} {K : Value → Prop} (H : kLoad P h t a K) : ∃ v, loadV P h t a = some v ∧ K v := by
  unfold kLoad at H
  split at H
  · rename_i ti ht
    obtain ⟨p, rfl, H⟩ := vPtr_ok H
    obtain ⟨i, off, rfl, H⟩ := aP_ok H
    simp only [loadV, ht]
    split at H
    · rename_i ha
      simp only [ha]
      split at H
      · split at H
        · rename_i hl
          obtain ⟨l, e, x⟩ := rdCast_ok H
          rw [Nat.eq_of_beq_eq_true hl] at e
          rw [e]
          exact ⟨_, rfl, x⟩
        · exact H.elim
      · exact H.elim
    · rename_i ha
      simp only [ha]
      obtain ⟨v, e, x⟩ := oB_ok H
      exact ⟨v, e, castD_ok x⟩
  · exact H.elim
theorem kNil_ok {v : Value} {K : Value → Prop} (H : kNil v K) : ∃ v', nilCheckV v = some v' ∧ K v' := by
  unfold kNil at H
  split at H
  · obtain ⟨i, off, rfl, H⟩ := aP_ok H
    exact ⟨_, rfl, H⟩
  · exact oB_ok H
theorem cellB_ok {d : TypeDesc} {x y : Value} {b : Bool} (H : cellB d x y = some b) : cellFits d x = true ∧ cellEq x y = some b := by
  unfold cellB at H
  split at H
  · exact ⟨rfl, H⟩
  · split at H
    · rename_i e
      have := of_decide_eq_true e; subst this
      simp only [cellFits, cellEq, if_pos]
      exact ⟨trivial, H⟩
    · cases H
  · exact ⟨rfl, H⟩
  · cases H
theorem fieldsB_ok : ∀ {fs : List Field} {xs ys : List Value} {b : Bool}, fieldsB P fs xs ys = some b → fieldsEq P fs xs ys = some b
  | [], [], [], b, H => H
  | f :: fs, x :: xs, y :: ys, b, H => by
    simp only [fieldsB] at H
    simp only [fieldsEq]
    split at H
    · rename_i d hd
      rw [hd]; simp only
      split at H
      · rename_i a c ha hc
        obtain ⟨h1, h2⟩ := cellB_ok ha
        simp only [h1, h2]
        have := fieldsB_ok hc
        cases a with
        | true => simp only; rw [this]; simpa using H
        | false => simpa using H
      · cases H
    · cases H
  | [], [], _ :: _, b, H => by simp [fieldsB] at H
  | [], _ :: _, _, b, H => by simp [fieldsB] at H
  | _ :: _, [], _, b, H => by simp [fieldsB] at H
  | _ :: _, _ :: _, [], b, H => by simp [fieldsB] at H
theorem eqNil_ok {t : TypeId} {ti : TI} (ht : tiOf P t = some ti) {v w : Value} {K : Bool → Prop} (H : eqNil ti.und w v K) :
    ∃ b, eqV P t true w v = some b ∧ eqV P t true v w = some b ∧ K b := by
  unfold eqNil at H
  split at H
  · rename_i e hu
    obtain ⟨p, rfl, x⟩ := vPtr_ok H
    refine ⟨_, ?_, ?_, x⟩
    · unfold eqV; rw [ht]; simp only [hu]
    · unfold eqV; rw [ht]; simp only [hu]; cases p <;> rfl
  · rename_i e l c hu
    obtain ⟨p, l', c', rfl, x⟩ := vSl_ok H
    refine ⟨_, ?_, ?_, x⟩
    · unfold eqV; rw [ht]; simp only [hu]
    · unfold eqV; rw [ht]; simp only [hu]; cases p <;> rfl
  · rename_i e e' hu
    obtain ⟨p, rfl, x⟩ := vMap_ok H
    refine ⟨_, ?_, ?_, x⟩
    · unfold eqV; rw [ht]; simp only [hu]
    · unfold eqV; rw [ht]; simp only [hu]; cases p <;> rfl
  · rename_i e hu
    obtain ⟨b, e', x⟩ := oB_ok H
    refine ⟨b, ?_, ?_, x⟩ <;> (unfold eqV; rw [ht]; simp only [hu]; unfold nilI at e'; split at e' <;> first | exact e' | cases e')
  · rename_i e1 e2 e3 hu
    obtain ⟨b, e', x⟩ := oB_ok H
    refine ⟨b, ?_, ?_, x⟩ <;> (unfold eqV; rw [ht]; simp only [hu]; unfold nilF at e'; split at e' <;> first | exact e' | cases e')
  · exact H.elim
theorem isNilC_const {x : Operand} (h : isNilC x = true) : isConst x = true := by
  cases x <;> simp [isNilC] at h <;> rfl
theorem kEq_ok {t : TypeId} {x y : Operand} {vx vy : Value} {K : Bool → Prop} (H : kEq P t x y vx vy K) : ∃ b, eqV P t (isConst x || isConst y) vx vy = some b ∧ K b := by
  unfold kEq at H
  split at H
  · rename_i ti ht
    split at H
    · rename_i hy
      obtain ⟨b, _, e, k⟩ := eqNil_ok ht H
      rw [isNilC_const hy, Bool.or_true]
      exact ⟨b, e, k⟩
    · split at H
      · rename_i hx
        obtain ⟨b, e, _, k⟩ := eqNil_ok ht H
        rw [isNilC_const hx, Bool.true_or]
        exact ⟨b, e, k⟩
      · split at H
        · rename_i hu
          obtain ⟨a, rfl, H1⟩ := vBool_ok H
          obtain ⟨b, rfl, H2⟩ := vBool_ok H1
          refine ⟨_, ?_, H2⟩
          unfold eqV; rw [ht]; simp only [hu]
        · rename_i fs hu
          split at H
          · rename_i hp
            obtain ⟨xs, rfl, H1⟩ := vAgg_ok H
            obtain ⟨ys, rfl, H2⟩ := vAgg_ok H1
            split at H2
            · rename_i b hb
              refine ⟨b, ?_, H2⟩
              unfold eqV; rw [ht]; simp only [hu, hp]
              exact fieldsB_ok hb
            · exact H2.elim
          · exact H.elim
        · exact oB_ok H
  · exact H.elim
theorem kInt_ok {op : BinOp} {k : IntKind} {x y : Int} {K : Value → Prop} (H : kInt op k x y K) : ∃ v, intBin op k x y = some v ∧ K v := by
  unfold kInt at H
  split at H
  · rcases bC_ok H with ⟨_, x⟩ | ⟨e, x⟩
    · exact x.elim
    · exact ⟨_, by simp only [intBin]; rw [if_neg (of_decide_eq_false e)], x⟩
  · rcases bC_ok H with ⟨_, x⟩ | ⟨e, x⟩
    · exact x.elim
    · exact ⟨_, by simp only [intBin]; rw [if_neg (of_decide_eq_false e)], x⟩
  all_goals first | exact ⟨_, rfl, H⟩ | skip
  split at H
  · rename_i v hv
    exact ⟨v, hv, H⟩
  · exact H.elim
theorem kStr_ok {op : BinOp} {x y : ByteArray} {K : Value → Prop} (H : kStr op x y K) : ∃ v, strBin op x y = some v ∧ K v := by
  unfold kStr at H
  split at H
  · rcases bC_ok H with ⟨e, x⟩ | ⟨e, x⟩
    · exact ⟨_, by simp only [strBin]; rw [e], x⟩
    · exact x.elim
  all_goals first | exact ⟨_, rfl, H⟩ | skip
  split at H
  · rename_i v hv
    exact ⟨v, hv, H⟩
  · exact H.elim
theorem kBin0_ok {op : BinOp} {t : TypeId} {x y : Operand} {vx vy : Value} {K : Value → Prop} (H : kBin0 P op t x y vx vy K) : ∃ v, binV P op t (isConst x || isConst y) vx vy = some v ∧ K v := by
  unfold kBin0 at H
  split at H
  · split at H
    · rcases bC_ok H with ⟨_, x⟩ | ⟨e, x⟩
      · exact x.elim
      · exact ⟨_, by simp only [binV]; rw [if_neg (of_decide_eq_false e)], x⟩
    · rcases bC_ok H with ⟨_, x⟩ | ⟨e, x⟩
      · exact x.elim
      · exact ⟨_, by simp only [binV]; rw [if_neg (of_decide_eq_false e)], x⟩
    · rename_i h1 h2
      split at H
      · rename_i e
        have := of_decide_eq_true e
        obtain ⟨v, hv, x⟩ := kInt_ok H
        refine ⟨v, ?_, x⟩
        cases op <;> first | (exact absurd rfl h1) | (exact absurd rfl h2) | (simp only [binV]; rw [if_pos this]; exact hv)
      · exact H.elim
  · obtain ⟨v, hv, x⟩ := kStr_ok H
    refine ⟨v, ?_, x⟩
    cases op <;> first | exact hv | (simp [strBin] at hv)
  · rename_i h1 h2
    split at H
    · obtain ⟨b, hb, x⟩ := kEq_ok H
      refine ⟨_, ?_, x⟩
      have : ∀ lit, binV P .eql t lit vx vy = (match eqV P t lit vx vy with | some b => some (.bool b) | none => none) := by
        intro lit
        cases vx <;> cases vy <;> first | rfl | exact (h1 _ _ _ _ rfl rfl).elim | exact (h2 _ _ rfl rfl).elim
      rw [this, hb]
    · obtain ⟨b, hb, x⟩ := kEq_ok H
      refine ⟨_, ?_, x⟩
      have : ∀ lit, binV P .neq t lit vx vy = (match eqV P t lit vx vy with | some b => some (.bool !b) | none => none) := by
        intro lit
        cases vx <;> cases vy <;> first | rfl | exact (h1 _ _ _ _ rfl rfl).elim | exact (h2 _ _ rfl rfl).elim
      rw [this, hb]
    · exact H.elim
theorem kBin_ok {op : BinOp} {t : TypeId} {x y : Operand} {vx vy : Value} {K : Value → Prop} (H : kBin P op t x y vx vy K) : ∃ v, binV P op t (isConst x || isConst y) vx vy = some v ∧ K v := by
  unfold kBin at H
  split at H
  · split at H
    · obtain ⟨b, hb, k⟩ := kEq_ok H
      refine ⟨_, ?_, k⟩
      have : ∀ lit, binV P .eql t lit vx .nilIface = (match eqV P t lit vx .nilIface with | some b => some (.bool b) | none => none) := by
        intro lit
        cases vx <;> rfl
      rw [this, hb]
    · obtain ⟨b, hb, k⟩ := kEq_ok H
      refine ⟨_, ?_, k⟩
      have : ∀ lit, binV P .neq t lit vx .nilIface = (match eqV P t lit vx .nilIface with | some b => some (.bool !b) | none => none) := by
        intro lit
        cases vx <;> rfl
      rw [this, hb]
    · exact H.elim
  · split at H
    · obtain ⟨b, hb, k⟩ := kEq_ok H
      refine ⟨_, ?_, k⟩
      have : ∀ lit, binV P .eql t lit vx .nilFunc = (match eqV P t lit vx .nilFunc with | some b => some (.bool b) | none => none) := by
        intro lit
        cases vx <;> rfl
      rw [this, hb]
    · obtain ⟨b, hb, k⟩ := kEq_ok H
      refine ⟨_, ?_, k⟩
      have : ∀ lit, binV P .neq t lit vx .nilFunc = (match eqV P t lit vx .nilFunc with | some b => some (.bool !b) | none => none) := by
        intro lit
        cases vx <;> rfl
      rw [this, hb]
    · exact H.elim
  · exact kBin0_ok H
theorem natIdx_idx {k : IntKind} {z : Int} {n : Nat} : idx (.int k z) n = natIdx z n := by
  unfold idx natIdx
  cases z <;> rfl
theorem natBnd_bnd {k : IntKind} {z : Int} {n : Nat} : bnd (.int k z) n = natBnd z n := by
  unfold bnd natBnd
  cases z <;> rfl
theorem kBnd_ok {x : Option Value} {n d : Nat} {K : Nat → Prop} (H : kBnd x n d K) : ∃ m, bndO x n d = some m ∧ K m := by
  unfold kBnd at H
  split at H
  · exact ⟨_, rfl, H⟩
  · split at H
    · rename_i k z
      obtain ⟨m, e, x⟩ := oB_ok H
      exact ⟨m, by simp only [bndO]; rw [natBnd_bnd, e], x⟩
    · exact H.elim
theorem bytes_ok {s d : TypeId} {a : Option Addr} {len c : Nat} {si di te : TI} {e : TypeId} {b : ByteArray} (hs : tiOf P s = some si) (hd : tiOf P d = some di) (hdu : di.und = .string) (hsu : si.und = .slice e) (he : tiOf P e = some te) (hte : te.und = .int .u8)
    (hb : h.bytes a len = some b) : convQ P h s d (.slice a len c) = some (.string b) := by
  unfold convQ
  rw [hs, hd]
  simp only [hdu]
  unfold AW.bytes at hb
  split at hb
  · simp only [hsu, he, hte]; cases hb; rfl
  · simp only [hsu, he, hte]
    split at hb
    · rename_i l hl
      rw [hl]; simp only
      split at hb
      · rename_i bs hbs
        cases hb
        rw [hbs]
      · cases hb
    · cases hb
  · cases hb
theorem kConv_ok {s d : TypeId} {x : Value} {K : Value → AW → Prop} (H : kConv P h s d x K) : ∃ v h', (match convQ P h s d x with | some v => some (v, h) | none => convA P h s d x) = some (v, h') ∧ K v h' := by
  unfold kConv at H
  split at H
  · rename_i si di hs hd
    split at H
    · rename_i k hu
      split at H
      · refine ⟨_, _, ?_, H⟩
        unfold convQ; rw [hs, hd]; simp only [hu]
      · exact H.elim
    · rename_i hu
      split at H
      · refine ⟨_, _, ?_, H⟩
        unfold convQ; rw [hs, hd]; simp only [hu]
      · refine ⟨_, _, ?_, H⟩
        unfold convQ; rw [hs, hd]; simp only [hu]
      · split at H
        · rename_i e hsu
          split at H
          · rename_i te he
            split at H
            · rename_i hte
              obtain ⟨b, hb, x⟩ := oB_ok H
              refine ⟨_, _, ?_, x⟩
              rw [bytes_ok hs hd hu hsu he hte hb]
            · exact H.elim
          · exact H.elim
        · exact H.elim
      · exact H.elim
    · rename_i e hu
      obtain ⟨v, h', e', y⟩ := oP_ok H
      obtain ⟨a, l, c, rfl, y⟩ := vSl_ok y
      refine ⟨_, _, ?_, y⟩
      have : convQ P h s d x = none := by unfold convQ; rw [hs, hd]; simp only [hu]
      rw [this]
      exact e'
    · rename_i hu
      split at H
      · obtain ⟨v, h', e', y⟩ := oP_ok H
        obtain ⟨p, rfl, y⟩ := vPtr_ok y
        refine ⟨_, _, ?_, y⟩
        have : ∀ p, convQ P h s d (.pointer p) = none := fun p => by unfold convQ; rw [hs, hd]; simp only [hu]
        rw [this]
        exact e'
      · exact H.elim
    · rename_i u hu
      split at H
      · obtain ⟨v, h', e', y⟩ := oP_ok H
        obtain ⟨p, rfl, y⟩ := vPtr_ok y
        refine ⟨_, _, ?_, y⟩
        have : ∀ p, convQ P h s d (.pointer p) = none := fun p => by unfold convQ; rw [hs, hd]; simp only [hu]
        rw [this]
        exact e'
      · exact H.elim
    · exact H.elim
  · exact H.elim
end Go.Abs
end
