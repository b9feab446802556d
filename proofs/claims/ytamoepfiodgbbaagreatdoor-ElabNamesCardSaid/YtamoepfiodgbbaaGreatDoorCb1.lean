/- A deterministic heap for the model, proved sound, and walks of the program over it: part 15. No condition. -/
import Derived.Test.YtamoepfiodgbbaaGreatDoorCa9
set_option linter.unusedVariables false
set_option linter.unusedSimpArgs false
set_option linter.unusedSectionVars false
section
/- Calls of the parts of the test, reckoned by the kernel. -/
namespace Go.Proofs.YtamoepfiodgbbaaGreatDoor.E
open Go.Abs
set_option maxRecDepth 100000
noncomputable def a_job : List Value := [.string ⟨#[114, 117, 108, 101, 32, 97, 32, 98, 32, 99, 32, 100, 32, 58]⟩]
def w_job : Value := .agg #[.int .i64 0, .string ⟨#[]⟩, .int .i64 0, .int .i64 0]
theorem q_job : semR P tabEv 100000 f_b0 0 0 [.string ⟨#[114, 117, 108, 101, 32, 97, 32, 98, 32, 99, 32, 100, 32, 58]⟩] h0 (res (.agg #[.int .i64 0, .string ⟨#[]⟩, .int .i64 0, .int .i64 0])) = True := by kernel_rfl
theorem fact_job : Fact P f_b0 a_job w_job := fact_ev (by kernel_rfl) q_job
noncomputable def a_job1 : List Value := [.string ⟨#[114, 117, 108, 101, 32, 97, 32, 98, 32, 99, 32, 100, 32, 101, 32, 58]⟩]
def w_job1 : Value := .agg #[.int .i64 154, .string ⟨#[114]⟩, .int .i64 1, .int .i64 13]
theorem q_job1 : semR P tabEv 100000 f_b0 0 0 [.string ⟨#[114, 117, 108, 101, 32, 97, 32, 98, 32, 99, 32, 100, 32, 101, 32, 58]⟩] h0 (res (.agg #[.int .i64 154, .string ⟨#[114]⟩, .int .i64 1, .int .i64 13])) = True := by kernel_rfl
theorem fact_job1 : Fact P f_b0 a_job1 w_job1 := fact_ev (by kernel_rfl) q_job1
noncomputable def a_loop : List Value := [.string ⟨#[105, 110, 99, 108, 117, 100, 101, 32, 114]⟩]
def w_loop : Value := .agg #[.int .i64 150, .string ⟨#[114]⟩, .int .i64 1, .int .i64 8]
theorem q_loop : semR P tabEv 100000 f_b0 0 0 [.string ⟨#[105, 110, 99, 108, 117, 100, 101, 32, 114]⟩] h0 (res (.agg #[.int .i64 150, .string ⟨#[114]⟩, .int .i64 1, .int .i64 8])) = True := by kernel_rfl
theorem fact_loop : Fact P f_b0 a_loop w_loop := fact_ev (by kernel_rfl) q_loop
noncomputable def a_deep8 : List Value := [.int .i64 8]
def w_deep8 : Value := .agg #[.int .i64 0, .string ⟨#[]⟩, .int .i64 0, .int .i64 0]
theorem q_deep8 : semR P tabEv 100000 f_b1 0 0 [.int .i64 8] h0 (res (.agg #[.int .i64 0, .string ⟨#[]⟩, .int .i64 0, .int .i64 0])) = True := by kernel_rfl
theorem fact_deep8 : Fact P f_b1 a_deep8 w_deep8 := fact_ev (by kernel_rfl) q_deep8
noncomputable def a_deep9 : List Value := [.int .i64 9]
def w_deep9 : Value := .agg #[.int .i64 3, .string ⟨#[102, 105]⟩, .int .i64 1, .int .i64 8]
theorem q_deep9 : semR P tabEv 100000 f_b1 0 0 [.int .i64 9] h0 (res (.agg #[.int .i64 3, .string ⟨#[102, 105]⟩, .int .i64 1, .int .i64 8])) = True := by kernel_rfl
theorem fact_deep9 : Fact P f_b1 a_deep9 w_deep9 := fact_ev (by kernel_rfl) q_deep9
end Go.Proofs.YtamoepfiodgbbaaGreatDoor.E
end
