/- A deterministic heap for the model, proved sound, and walks of the program over it: part 15. No condition. -/
import Derived.Test.YtkbioibemcmanaaGreatDoorCb1
import Derived.Test.YtkbioibemcmanaaGreatDoorCards
import Derived.Test.YtkbioibemcmanaaGreatDoorTie
import Derived.OpenShut
set_option linter.unusedVariables false
set_option linter.unusedSimpArgs false
set_option linter.unusedSectionVars false
section
/- What the row of a closed law of layer 21 needs: a world for the witness. -/
open Go.RowKit
namespace Go.Proofs.YtkbioibemcmanaaGreatDoor
open Go.Abs Go.ChangeShapes Go.WideShapes
set_option maxRecDepth 100000
theorem own_knob : ownKnob Tryz.prog.godebug = none := by kernel_rfl
noncomputable def lowB : Nat := (World.holding Tryz.prog default ⟨#[], #[], []⟩).heap.size
abbrev textRange : ByteArray := ⟨#[118, 97, 108, 117, 101, 32, 111, 117, 116, 32, 111, 102, 32, 114, 97, 110, 103, 101]⟩
abbrev textSyntax : ByteArray := ⟨#[105, 110, 118, 97, 108, 105, 100, 32, 115, 121, 110, 116, 97, 120]⟩
def tabCellsF : DataW Unit → Array Value
  | .agg l => (l.flatMap fun
    | .lit (.int k z) => [Value.int k z]
    | .agg m => m.map fun
      | .lit (.int k z) => Value.int k z
      | _ => .bool false
    | _ => [.bool false]).toArray
  | _ => #[]
def putTabF (h : Array Obj) : List (Nat × DataW Unit) → Array Obj
  | [] => h
  | (g, d) :: l => (putTabF h l).modify g fun
    | .cells _ t frozen => .cells (tabCellsF d) t frozen
    | o => o
noncomputable def laidW (os : Os) : World :=
  let w0 := World.holding Tryz.prog os ⟨#[.cells #[.string textRange] 304, .cells #[.string textSyntax] 304], #[], []⟩
  { w0 with heap := ((putTabF w0.heap [(6, Rows.laid_math_bits_deBruijn32tab), (7, Rows.laid_math_bits_deBruijn64tab), (3, Rows.laid_internal_strconv_uint64pow10), (2, Rows.laid_unicode_utf8_acceptRanges), (1, Rows.laid_unicode_utf8_first)]).modify 5 fun
      | .cells _ t frozen => .cells #[.iface 302 (.pointer (some ⟨lowB, 0, none⟩))] t frozen
      | o => o).modify 4 fun
      | .cells _ t frozen => .cells #[.iface 302 (.pointer (some ⟨lowB + 1, 0, none⟩))] t frozen
      | o => o }
theorem laid_met {args : Array Value} (os : Os) : laidMet Tryz.prog Rows.cleanKnownRow.laid ((laidW os).forCall (fun _ _ => 0) ⟨#[], args, []⟩).memory :=
  laidMet_of_run' 8 (by kernel_rfl) (by kernel_rfl)
end Go.Proofs.YtkbioibemcmanaaGreatDoor
end
