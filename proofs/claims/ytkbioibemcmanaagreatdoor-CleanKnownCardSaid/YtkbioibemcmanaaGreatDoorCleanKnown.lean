/- Of this seat's law CleanKnown: whenever it is called it answers true, and its arguments read afterwards as they read before. The condition is the row's own: the listed package variables hold what the program's text lays, and the card ties that to the text. -/
import Derived.Test.YtkbioibemcmanaaGreatDoorCc1
set_option linter.unusedVariables false
set_option linter.unusedSimpArgs false
set_option linter.unusedSectionVars false
open Go.RowKit
namespace Go.Proofs.YtkbioibemcmanaaGreatDoor
open Go.Abs Go.ChangeShapes Go.WideShapes
set_option maxRecDepth 100000
namespace RCleanKnown
section
variable {H : Type} {enc : TypeId × Value → H} {W : World}
theorem run {args : Array Value} {ds : List (DataW H)} {p : List MemPlace} (hA0 : DataW.TrodAll enc Tryz.prog W 0 (fun _ => true) true Tryz.f3.params.toList args.toList ds p) :
    ∃ avs : List Value, LRel (argMap W.heap.size) avs args.toList ∧ EvQ Tryz.prog 3 avs (mir W) fun v _ => v = .bool true := by
  have hA := hA0
  rw [Tryz.params3] at hA
  obtain ⟨e, _, _⟩ := trodAll_nil hA
  rw [e]
  exact ⟨[], L2.nil, E.cleanKnown_ok rfl⟩
end
theorem spec_same (K : Type) (ds : List (DataW K)) (h : ds.length = Tryz.f3.params.size) : (Rows.cleanKnownSpec.fn K ds).results = [.lit (.bool true)] ∧ (Rows.cleanKnownSpec.fn K ds).args = ds ∧ (Rows.cleanKnownSpec.fn K ds).vars = [] := by
  rw [Tryz.params3] at h
  match ds, h with
  | [], _ => exact ⟨rfl, rfl, rfl⟩
theorem types : ∀ t', t' ∈ Tryz.f3.params.toList → Tryz.prog.readableRec t' = true ∧ t' < Tryz.prog.types.size := by
  rw [Tryz.params3]
  intro t' h
  simp at h
def wArgs : Array Value := #[]
theorem reads (os : Os) {H : Type} (enc : TypeId × Value → H) : ∃ places, DataW.whole enc Tryz.prog ((laidW os).forCall (fun _ _ => 0) ⟨#[], wArgs, []⟩).memory Tryz.f3.params.toList Rows.cleanKnownSpec.vars false wArgs.toList 8 = some ([], [], places) :=
  ⟨[], by kernel_rfl⟩
theorem lifted (os : Os) (started : os.Started) (H : Type) (enc : TypeId × Value → H) (F : Stop.Interp) :
    ReturnsInHanded {} Tryz.checked os 3 .any ((OpenSpec.ofChange Rows.cleanKnownSpec).preRow enc Tryz.prog Tryz.f3 Rows.cleanKnownRow.domain false Rows.cleanKnownRow.laid) (((OpenSpec.ofChange Rows.cleanKnownSpec).at F).post enc Tryz.prog Tryz.f3 false true false false) := by
  obtain ⟨places, hx⟩ := reads os enc
  refine returnsInHanded_of_row (C := Tryz.checked) (s := OpenSpec.ofChange Rows.cleanKnownSpec) own_knob started (by kernel_rfl) Tryz.func3
    (witness_row_at (enc := enc) (C := Tryz.checked) false (laidW os) wArgs rfl (by kernel_rfl) (by kernel_rfl) (by kernel_rfl)
      (OpenSpec.preRow_of_cond 8 hx (by kernel_rfl) (fun k hk => by cases hk) (by kernel_rfl) (laid_met os))) ?_
  intro W base args ds gs before hval hW _ _ hz hlaid hsh _
  refine calls_argsE (s := Rows.cleanKnownSpec) (by kernel_rfl) types (t := 4) (by kernel_rfl) Tryz.underlying4 rfl spec_same (by kernel_rfl) hW hsh fun p hA => run hA
theorem said : Rows.CleanKnownSaid :=
  OpenClaim.holds_of_cond 3 Tryz.f3 rfl rfl rfl rfl rfl rfl rfl ⟨rfl, rfl, rfl, rfl, rfl⟩ rfl rfl rfl rfl rfl (by kernel_rfl) Tryz.func3 (by kernel_rfl)
    (of_decide_eq_true (by kernel_rfl)) (by unfold Func.isWrapper; first | (rw [if_pos (by decide +kernel)]; kernel_rfl) | (rw [if_neg (by decide +kernel)]; exact ⟨rfl, rfl⟩))
    (fun os started H enc _ F => by rw [OpenClaim.pre_eq_preRow]; exact lifted os started H enc F)
theorem plain (f : FuncId) (fn : Func) (hf : Tryz.pinned.checked.prog.funcNamed "brickyard/brickyardlaw21.CleanKnown" = some f) (hfn : Tryz.pinned.checked.prog.funcs[f]? = some fn) :
    true = Tryz.pinned.checked.prog.looks [] ∧ ∀ (j : Nat) t, fn.params[j]? = some t → Tryz.pinned.checked.prog.wantsStandIn t = false := by
  obtain rfl : f = 3 := Option.some.inj ((show Tryz.prog.funcNamed "brickyard/brickyardlaw21.CleanKnown" = some 3 by kernel_rfl).symm.trans hf) |>.symm
  obtain rfl : fn = Tryz.f3 := (Option.some.inj (Tryz.func3.symm.trans hfn)).symm
  refine ⟨by kernel_rfl, fun j t ht => ?_⟩
  rw [Tryz.params3] at ht
  have := Array.mem_of_getElem? ht
  simp at this
end RCleanKnown
theorem cleanKnown_holds : Rows.CleanKnownCardSaid :=
  Claim7.holds_tied_plain_at .later [] _ _ _ _ RCleanKnown.said (fun _ h => by cases h) (by kernel_rfl) (fun _ h => by cases h) cleanKnown_row_tie rfl ⟨rfl, rfl⟩ (by kernel_rfl) rfl RCleanKnown.plain (by kernel_rfl)
end Go.Proofs.YtkbioibemcmanaaGreatDoor
