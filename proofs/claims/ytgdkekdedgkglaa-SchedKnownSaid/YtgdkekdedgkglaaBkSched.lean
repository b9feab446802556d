/- Of this seat's law SchedKnown: whenever it is called, on every schedule, it answers true and leaves alone what it found. No condition. -/
import Derived.Test.YtgdkekdedgkglaaBkClose
import Derived.Test.YtgdkekdedgkglaaRows
open Go.RowKit
namespace Go.Proofs.Ytgdkekdedgkglaa
open Go.ChangeShapes Go.Abs

theorem own_knob : ownKnob Try.prog.godebug = none := by kernel_rfl
set_option maxRecDepth 100000 in
theorem schedKnown_run : saysTrue (callF Try.prog 1000 3 [] ⟨0, .nil, .nil⟩) = true := by kernel_rfl
set_option maxRecDepth 100000 in
theorem schedKnown_lifted (os : Os) (started : os.Started) (H : Type) (enc : TypeId × Value → H) :
    ReturnsInHanded {} Try.checked os 3 .any (Rows.schedKnownSpec.pre6 enc Try.prog Try.f3 Rows.schedKnownRow.domain false) (Rows.schedKnownSpec.post enc Try.prog Try.f3 false true false false) :=
  handed_closed (C := Try.checked) own_knob started (by kernel_rfl) Try.func3
    (ChangeSpec.witness6 (enc := enc) (C := Try.checked) false ⟨#[], #[], []⟩ 8 (by kernel_rfl) (by kernel_rfl) (by kernel_rfl) (by kernel_rfl))
    Try.params3 (by kernel_rfl) Try.underlying4 rfl (fun _ => ⟨rfl, rfl, rfl⟩) (by kernel_rfl) (by kernel_rfl) schedKnown_run

theorem schedKnown_holds : Rows.SchedKnownSaid :=
  OpenClaim.holds_of_wide_leaving 3 Try.f3 rfl rfl rfl rfl rfl rfl rfl ⟨rfl, rfl, rfl, rfl, rfl⟩ rfl rfl rfl rfl rfl (by kernel_rfl) Try.func3 (by kernel_rfl)
    (of_decide_eq_true (by kernel_rfl)) (by unfold Func.isWrapper; first | (rw [if_pos (by decide +kernel)]; kernel_rfl) | (rw [if_neg (by decide +kernel)]; exact ⟨rfl, rfl⟩))
    (fun os started H enc _ => leaving_of_handed (schedKnown_lifted os started H enc))

end Go.Proofs.Ytgdkekdedgkglaa
