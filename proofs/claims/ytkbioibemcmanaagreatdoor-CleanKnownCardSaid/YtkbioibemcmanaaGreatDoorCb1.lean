/- A deterministic heap for the model, proved sound, and walks of the program over it: part 14. No condition. -/
import Derived.Test.YtkbioibemcmanaaGreatDoorCa7
set_option linter.unusedVariables false
set_option linter.unusedSimpArgs false
set_option linter.unusedSectionVars false
section
/- The law's function, on a heap of its own: it comes to true. -/
namespace Go.Proofs.YtkbioibemcmanaaGreatDoor.E
open Go.Abs
set_option maxRecDepth 100000
def h0 : AW := ⟨8, .nil, .nil, .nil, .nil⟩
def res (r v : Value) (_ : AW) : Prop := bCE (sameB v r) True False
theorem q_top : semR P tabEw 100000 3 0 0 [] h0 (res (.bool true)) = True := by kernel_rfl
theorem top_fact : Fact P 3 [] (.bool true) :=
  fact_of (h0 := h0) (by kernel_rfl) (EvQ.mono (semR_ok 100000 3 0 0 [] h0 (res (.bool true)) (q_top.symm ▸ trivial)) fun _ _ e => sameB_eq (bCE_true e).1)
theorem cleanKnown_ok {h : AW} {Q : Value → AW → Prop} (q : Q (.bool true) h) : EvQ P 3 [] h Q := top_fact.evq q
end Go.Proofs.YtkbioibemcmanaaGreatDoor.E
end
