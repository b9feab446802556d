/- A deterministic heap for the model, proved sound, and walks of the program over it: part 20. No condition. -/
import Derived.Test.YtamoepfiodgbbaaGreatDoorCf1
set_option linter.unusedVariables false
set_option linter.unusedSimpArgs false
set_option linter.unusedSectionVars false
section
/- The test ahead of the law, run apart: it comes to true. -/
namespace Go.Proofs.YtamoepfiodgbbaaGreatDoor.E
open Go.Abs
set_option maxRecDepth 100000
theorem works_fact : Fact P 8 [] (.bool true) := ⟨401, fun _ => own_call (n := 400) (by kernel_rfl) (by kernel_rfl)⟩
end Go.Proofs.YtamoepfiodgbbaaGreatDoor.E
end
