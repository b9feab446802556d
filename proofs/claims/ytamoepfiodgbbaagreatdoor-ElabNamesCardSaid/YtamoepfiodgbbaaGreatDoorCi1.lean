/- A deterministic heap for the model, proved sound, and walks of the program over it: part 22. No condition. -/
import Derived.Test.YtamoepfiodgbbaaGreatDoorCh1
set_option linter.unusedVariables false
set_option linter.unusedSimpArgs false
set_option linter.unusedSectionVars false
section
/- The law's function, on a heap of its own: it comes to true. -/
namespace Go.Proofs.YtamoepfiodgbbaaGreatDoor.E
open Go.Abs
set_option maxRecDepth 100000
theorem q_top : semR P tabEw 100000 5 0 0 [] h0 (res (.bool true)) = True := by kernel_rfl
theorem top_fact : Fact P 5 [] (.bool true) :=
  fact_of (h0 := h0) (by kernel_rfl) (EvQ.mono (semR_ok 100000 5 0 0 [] h0 (res (.bool true)) (q_top.symm ▸ trivial)) fun _ _ e => sameB_eq (bCE_true e).1)
theorem elabNames_ok {h : AW} {Q : Value → AW → Prop} (q : Q (.bool true) h) : EvQ P 5 [] h Q := top_fact.evq q
end Go.Proofs.YtamoepfiodgbbaaGreatDoor.E
end
