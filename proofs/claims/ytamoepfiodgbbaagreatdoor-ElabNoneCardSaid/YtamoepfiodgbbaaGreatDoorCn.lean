/- Of this seat's law ElabNone: whenever it is called it answers true, and its arguments read afterwards as they read before. The condition is the row's own: the listed package variables hold what the program's text lays, and the card ties that to the text. -/
import Derived.Test.YtamoepfiodgbbaaGreatDoorAb1
import Derived.Test.YtamoepfiodgbbaaGreatDoorAb2
import Derived.Test.YtamoepfiodgbbaaGreatDoorAb3
import Derived.Test.YtamoepfiodgbbaaGreatDoorAb4
import Derived.Test.YtamoepfiodgbbaaGreatDoorAb5
import Derived.Test.YtamoepfiodgbbaaGreatDoorCd1
import Derived.Test.YtamoepfiodgbbaaGreatDoorCd2
set_option linter.unusedVariables false
set_option linter.unusedSimpArgs false
set_option linter.unusedSectionVars false
open Go.RowKit
namespace Go.Proofs.YtamoepfiodgbbaaGreatDoor
open Go.Abs Go.Abs.Fo Go.ChangeShapes Go.WideShapes
set_option maxRecDepth 100000
namespace RElabNone
section
variable {H : Type} {enc : TypeId × Value → H} {W : World}
theorem run {args : Array Value} {ds : List (DataW H)} {p : List MemPlace} {base : Nat} (hlaid0 : laidMetH Tryz.prog Rows.elabNoneRow.laid W) (hval : ∀ (j : Nat) t v, Tryz.f6.params[j]? = some t → args[j]? = some v → Value.okWide Tryz.prog W .any base t v) (hA0 : DataW.TrodAll enc Tryz.prog W 0 (fun _ => true) true Tryz.f6.params.toList args.toList ds p)
    (hz0 : ∀ (i : Nat) (t : TypeId) (d : DataW H), Tryz.f6.params.toList[i]? = some t → ds[i]? = some d → Light Tryz.prog t d) :
    ∃ avs : List Value, LRel (argMap W.heap.size) avs args.toList ∧ EvQ Tryz.prog 6 avs (mir W) fun v _ => v = .bool true := by
  have hA := hA0
  have hz := hz0
  have hlaid : laidMet Tryz.prog Rows.elabNoneRow.laid W := hlaid0
  have hpow := pow_good (hlaid.tail.tail)
  rw [Tryz.params6] at hA hz hval
  obtain ⟨v0, d0, rfl, rfl, ⟨n0, h0⟩⟩ := trodAll_one hA
  obtain ⟨s, rfl⟩ := okWide_string Tryz.underlying9 (hval 0 9 v0 rfl rfl)
  refine ⟨[.string s], L2.cons (.string s) L2.nil, ?_⟩
  exact elabNone_ok (good_own GoodV.nil) fun _ => rfl
end
theorem spec_same (K : Type) (ds : List (DataW K)) (h : ds.length = Tryz.f6.params.size) : (Rows.elabNoneSpec.fn K ds).results = [.lit (.bool true)] ∧ (Rows.elabNoneSpec.fn K ds).args = ds ∧ (Rows.elabNoneSpec.fn K ds).vars = [] := by
  rw [Tryz.params6] at h
  match ds, h with
  | [_], _ => exact ⟨rfl, rfl, rfl⟩
theorem types : ∀ t', t' ∈ Tryz.f6.params.toList → Tryz.prog.readableRec t' = true ∧ t' < Tryz.prog.types.size := by
  rw [Tryz.params6]
  intro t' h
  simp at h
  subst h
  exact ⟨by kernel_rfl, of_decide_eq_true (by kernel_rfl)⟩
def wArgs : Array Value := #[.string ⟨#[]⟩]
theorem reads (os : Os) {H : Type} (enc : TypeId × Value → H) : ∃ places, DataW.whole enc Tryz.prog ((laidW os).forCall (fun _ _ => 0) ⟨#[], wArgs, []⟩).memory Tryz.f6.params.toList Rows.elabNoneSpec.vars false wArgs.toList 8 = some ([.lit (.string [])], [], places) :=
  ⟨[], by kernel_rfl⟩
theorem lifted (os : Os) (started : os.Started) (H : Type) (enc : TypeId × Value → H) (F : Stop.Interp) :
    ReturnsInHanded {} Tryz.checked os 6 .any ((OpenSpec.ofChange Rows.elabNoneSpec).preRow enc Tryz.prog Tryz.f6 Rows.elabNoneRow.domain false Rows.elabNoneRow.laid) (((OpenSpec.ofChange Rows.elabNoneSpec).at F).post enc Tryz.prog Tryz.f6 false true false false) := by
  obtain ⟨places, hx⟩ := reads os enc
  refine returnsInHanded_of_row (C := Tryz.checked) (s := OpenSpec.ofChange Rows.elabNoneSpec) own_knob started (by kernel_rfl) Tryz.func6
    (witness_row_at (enc := enc) (C := Tryz.checked) false (laidW os) wArgs rfl (by kernel_rfl) (by kernel_rfl) (by kernel_rfl)
      (OpenSpec.preRow_of_cond 8 hx (by kernel_rfl) (fun k hk => by cases hk) (by kernel_rfl) (laid_met os))) ?_
  intro W base args ds gs before hval hW _ _ hz hlaid hsh _
  refine calls_argsE (s := Rows.elabNoneSpec) (by kernel_rfl) types (t := 4) (by kernel_rfl) Tryz.underlying4 rfl spec_same (by kernel_rfl) hW hsh fun p hA => run hlaid hval hA fun i t d h1 h2 => ?_
  refine light_at hz (i := i) ?_ ?_
  · rw [List.getElem?_append_left (List.getElem?_eq_some_iff.1 h1).1]; exact h1
  · rw [List.getElem?_append_left (List.getElem?_eq_some_iff.1 h2).1]; exact h2
theorem said : Rows.ElabNoneSaid :=
  OpenClaim.holds_of_cond 6 Tryz.f6 rfl rfl rfl rfl rfl rfl rfl ⟨rfl, rfl, rfl, rfl, rfl⟩ rfl rfl rfl rfl rfl (by kernel_rfl) Tryz.func6 (by kernel_rfl)
    (of_decide_eq_true (by kernel_rfl)) (by unfold Func.isWrapper; first | (rw [if_pos (by decide +kernel)]; kernel_rfl) | (rw [if_neg (by decide +kernel)]; exact ⟨rfl, rfl⟩))
    (fun os started H enc _ F => by rw [OpenClaim.pre_eq_preRow]; exact lifted os started H enc F)
theorem plain (f : FuncId) (fn : Func) (hf : Tryz.pinned.checked.prog.funcNamed "brickyard/brickyardlaw15.ElabNone" = some f) (hfn : Tryz.pinned.checked.prog.funcs[f]? = some fn) :
    true = Tryz.pinned.checked.prog.looks [] ∧ ∀ (j : Nat) t, fn.params[j]? = some t → Tryz.pinned.checked.prog.wantsStandIn t = false := by
  obtain rfl : f = 6 := Option.some.inj ((show Tryz.prog.funcNamed "brickyard/brickyardlaw15.ElabNone" = some 6 by kernel_rfl).symm.trans hf) |>.symm
  obtain rfl : fn = Tryz.f6 := (Option.some.inj (Tryz.func6.symm.trans hfn)).symm
  refine ⟨by kernel_rfl, fun j t ht => ?_⟩
  rw [Tryz.params6] at ht
  have := Array.mem_of_getElem? ht
  simp at this
  subst this
  exact (show Tryz.prog.wantsStandIn 9 = false by kernel_rfl)
end RElabNone
theorem elabNone_holds : Rows.ElabNoneCardSaid :=
  Claim7.holds_tied_plain_at .later [] _ _ _ _ RElabNone.said (fun _ h => by cases h) (by kernel_rfl) (fun _ h => by cases h) elabNone_row_tie rfl ⟨rfl, rfl⟩ (by kernel_rfl) rfl RElabNone.plain (by kernel_rfl)
end Go.Proofs.YtamoepfiodgbbaaGreatDoor
