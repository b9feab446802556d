/- A deterministic heap for the model, proved sound, and walks of the program over it: part 21. No condition. -/
import Derived.Test.YtamoepfiodgbbaaGreatDoorCg1
set_option linter.unusedVariables false
set_option linter.unusedSimpArgs false
set_option linter.unusedSectionVars false
section
/- What was reckoned once, as entries of the evaluator's table. -/
namespace Go.Proofs.YtamoepfiodgbbaaGreatDoor.E
open Go.Abs
set_option maxRecDepth 100000
section
noncomputable def dFa : List (List Value × Value) → List Value → AW → (Value → AW → Prop) → Prop
  | [], _, _, _ => False
  | (x, r) :: L, a, h, Q => bCE (sameLV x a) (Q r h) (dFa L a h Q)
theorem dFa_ok {f : FuncId} : ∀ {L : List (List Value × Value)}, (∀ x, x ∈ L → Fact P f x.1 x.2) → ∀ {a : List Value} {h : AW} {Q : Value → AW → Prop}, dFa L a h Q → EvQ P f a h Q
  | [], _, _, _, _, H => H.elim
  | (x, r) :: L, hL, a, h, Q, H => by
    unfold dFa at H
    rw [bCE_eq] at H
    rcases bC_ok H with ⟨e, H⟩ | ⟨_, H⟩
    · rw [← sameLV_eq e]
      exact (hL (x, r) (by simp)).evq H
    · exact dFa_ok (fun y hy => hL y (List.mem_cons_of_mem _ hy)) H
noncomputable def facts8 : List (List Value × Value) := [([], .bool true)]
noncomputable def facts18 : List (List Value × Value) := [(a_inc, w_inc), (a_inc1, w_inc1), (a_full, w_full), (a_full1, w_full1), (a_job, w_job), (a_job1, w_job1), (a_loop, w_loop)]
noncomputable def facts19 : List (List Value × Value) := [(a_deep8, w_deep8), (a_deep9, w_deep9)]
theorem facts8_ok : ∀ x, x ∈ facts8 → Fact P 8 x.1 x.2 := by
  intro x hx
  simp only [facts8, List.mem_cons, List.not_mem_nil, or_false] at hx
  subst hx; exact works_fact
theorem facts18_ok : ∀ x, x ∈ facts18 → Fact P 18 x.1 x.2 := by
  intro x hx
  simp only [facts18, List.mem_cons, List.not_mem_nil, or_false] at hx
  rcases hx with rfl | rfl | rfl | rfl | rfl | rfl | rfl
  · exact fact_inc
  · exact fact_inc1
  · exact fact_full
  · exact fact_full1
  · exact fact_job
  · exact fact_job1
  · exact fact_loop
theorem facts19_ok : ∀ x, x ∈ facts19 → Fact P 19 x.1 x.2 := by
  intro x hx
  simp only [facts19, List.mem_cons, List.not_mem_nil, or_false] at hx
  rcases hx with rfl | rfl
  · exact fact_deep8
  · exact fact_deep9
noncomputable def e_works : Ent P := ⟨8, 0, 0, fun _ _ a h Q => dFa facts8 a h Q, fun _ _ _ _ _ _ _ H => dFa_ok facts8_ok H⟩
noncomputable def e_fn1 : Ent P := ⟨18, 0, 0, fun _ _ a h Q => dFa facts18 a h Q, fun _ _ _ _ _ _ _ H => dFa_ok facts18_ok H⟩
noncomputable def e_fn2 : Ent P := ⟨19, 0, 0, fun _ _ a h Q => dFa facts19 a h Q, fun _ _ _ _ _ _ _ H => dFa_ok facts19_ok H⟩
end
end Go.Proofs.YtamoepfiodgbbaaGreatDoor.E
end

section
/- The table of bodies. -/
namespace Go.Proofs.YtamoepfiodgbbaaGreatDoor.E
open Go.Abs
noncomputable def tabEw : T (Ent P) := (T.set (T.set (T.set (T.set (T.set (T.set (T.set (T.set (T.set (T.set (T.set (T.set (T.set (T.set tabEv 5120 e_ap) 5127 e_az) 5131 e_aq) 5135 e_ar) 5136 e_as) 5137 e_at) 5139 e_au) 5140 e_av) 5141 e_aw) 5142 e_ax) 5144 e_ay) 8192 e_works) 18432 e_fn1) 19456 e_fn2)
end Go.Proofs.YtamoepfiodgbbaaGreatDoor.E
end
