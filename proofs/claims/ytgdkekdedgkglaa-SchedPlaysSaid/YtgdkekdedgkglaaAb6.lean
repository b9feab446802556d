/- A deterministic heap for the model, proved sound, and walks of the program over it: part 6. No condition. -/
import Derived.Test.YtgdkekdedgkglaaAb1
import Derived.Test.YtgdkekdedgkglaaAb2
import Derived.Test.YtgdkekdedgkglaaAb3
import Derived.Test.YtgdkekdedgkglaaAb4
import Derived.Test.YtgdkekdedgkglaaAb5
import Derived.Lib.LaidTab
import Derived.Deep.DeepHandedRow
import Derived.Stop.LaidErr
set_option linter.unusedVariables false
set_option linter.unusedSimpArgs false
set_option linter.unusedSectionVars false
section
/- A row with arguments, and with listed package variables, out of what the function comes to. -/
open Go.RowKit
namespace Go.Abs
open Go.ChangeShapes
section
variable {H : Type} {enc : TypeId × Value → H} {P : Program} {f : FuncId} {fn : Func} {s : ChangeSpec} {apart handsOn : Bool} {t : TypeId}

/-- What the model's call does, for a law whose arguments read behind the call as they read before. -/
theorem calls_args (hlaid : laidOutB P = true) (hparams : ∀ t', t' ∈ fn.params.toList → P.readableRec t' = true ∧ t' < P.types.size)
    (hr : fn.resultTypes = #[t]) (ht : P.underlying t = some .bool) (hv : s.vars = [])
    (hs : ∀ (K : Type) (ds : List (DataW K)), ds.length = fn.params.size → (s.fn K ds).results = [.lit (.bool true)] ∧ (s.fn K ds).args = ds ∧ (s.fn K ds).vars = [])
    (hlow : Nat.ble (P.globals.size + 1) (begin P (fun _ _ => 0) default).world.heap.size = true)
    {W : World} {args : Array Value} {ds gs : List (DataW H)} {before : List MemPlace} (hW : DataW.Whole enc P fn.params.toList s.vars apart W args.toList ds gs before) (hsh : W.ShapedOpen P)
    (run : ∀ (p : List MemPlace), DataW.TrodAll enc P W 0 (fun _ => true) true fn.params.toList args.toList ds p →
      LRel (argMap W.heap.size) (args.toList.map (norm W.heap.size)) args.toList ∧ EvQ P f (args.toList.map (norm W.heap.size)) (mir W) fun v _ => v = .bool true) :
    Calls P f args W fun e W' => ∃ v, e = .returned v ∧ s.post enc P fn apart true handsOn false W args v W' := by
  have hsz := shaped_size hlow hsh
  have hW0 := hW
  obtain ⟨p, q, hA, _⟩ := hW
  obtain ⟨hrel, v, h', ⟨n, hev⟩, hq⟩ := run _ hA
  subst hq
  obtain ⟨_, hcalls⟩ := calls_ok (B0 := Zn.lt W.heap.size) (w0 := W) n f _ _ _ _ hev
  have hglob : Glob P (argMap W.heap.size) := fun g hg => argMap_lt (Nat.lt_of_lt_of_le hg hsz)
  have hargs : (⟨args.toList⟩ : Array Value) = args := by simp
  have := hcalls _ _ _ hrel (mir_rel _) hglob
  rw [hargs] at this
  refine this.mono fun e W' he => ?_
  obtain ⟨ψ, v', _, rfl, hv', HR⟩ := he
  rw [hv'.bool_inv]
  exact ⟨_, rfl, post_args hlaid hparams hr ht hv hs hW0 HR.below.below⟩
end
/-- The cells of a table as a row lists it. -/
def tabCells : DataW Unit → Array Value
  | .agg l => (l.map fun
    | .lit (.int k z) => Value.int k z
    | _ => .bool false).toArray
  | _ => #[]
def putTab (h : Array Obj) : List (Nat × DataW Unit) → Array Obj
  | [] => h
  | (g, d) :: l => (putTab h l).modify g fun
    | .cells _ t frozen => .cells (tabCells d) t frozen
    | o => o
end Go.Abs
end
