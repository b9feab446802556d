/- Of this seat's law ElabTexts: whenever it is called it answers true, and its arguments read afterwards as they read before. The condition is the row's own: the listed package variables hold what the program's text lays, and the card ties that to the text. -/
import Derived.Test.YtamoepfiodgbbaaGreatDoorAb1
import Derived.Test.YtamoepfiodgbbaaGreatDoorAb2
import Derived.Test.YtamoepfiodgbbaaGreatDoorAb3
import Derived.Test.YtamoepfiodgbbaaGreatDoorAb4
import Derived.Test.YtamoepfiodgbbaaGreatDoorAb5
import Derived.Test.YtamoepfiodgbbaaGreatDoorAb6
import Derived.Test.YtamoepfiodgbbaaGreatDoorCd1
import Derived.Test.YtamoepfiodgbbaaGreatDoorCd2
import Derived.Test.YtamoepfiodgbbaaGreatDoorCd3
import Derived.Test.YtamoepfiodgbbaaGreatDoorCd4
import Derived.Test.YtamoepfiodgbbaaGreatDoorCd5
import Derived.Test.YtamoepfiodgbbaaGreatDoorCd6
set_option linter.unusedVariables false
set_option linter.unusedSimpArgs false
set_option linter.unusedSectionVars false
open Go.RowKit
namespace Go.Proofs.YtamoepfiodgbbaaGreatDoor
open Go.Abs Go.Abs.Fo Go.ChangeShapes Go.WideShapes
set_option maxRecDepth 100000
namespace RElabTexts
section
variable {H : Type} {enc : TypeId × Value → H} {W : World}
theorem run {args : Array Value} {ds : List (DataW H)} {p : List MemPlace} {base : Nat} (hlaid0 : laidMetH Tryz.prog Rows.elabTextsRow.laid W) (hval : ∀ (j : Nat) t v, Tryz.f7.params[j]? = some t → args[j]? = some v → Value.okWide Tryz.prog W .any base t v) (hA0 : DataW.TrodAll enc Tryz.prog W 0 (fun _ => true) true Tryz.f7.params.toList args.toList ds p)
    (hz0 : ∀ (i : Nat) (t : TypeId) (d : DataW H), Tryz.f7.params.toList[i]? = some t → ds[i]? = some d → Light Tryz.prog t d) :
    ∃ avs : List Value, LRel (argMap W.heap.size) avs args.toList ∧ EvQ Tryz.prog 7 avs (mir W) fun v _ => v = .bool true := by
  have hA := hA0
  have hz := hz0
  have hlaid : laidMet Tryz.prog Rows.elabTextsRow.laid W := hlaid0
  have hpow := pow_good (hlaid.tail.tail)
  rw [Tryz.params7] at hA hz hval
  obtain ⟨v0, v1, d0, d1, p0, p1, rfl, rfl, _, ⟨n0, h0⟩, ⟨n1, h1⟩⟩ := trodAll_two hA
  obtain ⟨⟨cs0⟩, rfl, q0⟩ := okWide_struct (fs := #[⟨"Key", 9, 0, false, "", "", 0⟩, ⟨"Targets", 22, 1, false, "", "", 16⟩, ⟨"Deps", 22, 2, false, "", "", 40⟩, ⟨"Code", 60, 3, false, "", "", 64⟩]) (by kernel_rfl) (hval 0 62 v0 rfl rfl)
  obtain ⟨⟨cs1⟩, rfl, q1⟩ := okWide_struct (fs := #[⟨"Key", 9, 0, false, "", "", 0⟩, ⟨"Targets", 22, 1, false, "", "", 16⟩, ⟨"Deps", 22, 2, false, "", "", 40⟩, ⟨"Code", 60, 3, false, "", "", 64⟩]) (by kernel_rfl) (hval 1 62 v1 rfl rfl)
  have k62 : Tryz.prog.cellsOf 62 = 4 := by kernel_rfl
  rw [k62] at q0 q1
  obtain ⟨s, b, cb, ts, a, ca, ds, c, cc, f, vs, r0, g0, f0, j0⟩ := open_job h0 (hz 0 62 d0 rfl rfl) q0
  obtain ⟨s', b', cb', ts', a', ca', ds', c', cc', g, vs', r1, g1, f1, j1⟩ := open_job h1 (hz 1 62 d1 rfl rfl) q1
  refine ⟨_, L2.cons r0 (L2.cons r1 L2.nil), ?_⟩
  have G := (g0.app g1).app hpow
  exact elabTexts_ok (good_own G) (Vin.vw G (.inr (by simp))) (j0 _ G fun x hx => by simp [hx]) (j1 _ G fun x hx => by simp [hx]) f0 f1 fun _ => rfl
end
theorem spec_same (K : Type) (ds : List (DataW K)) (h : ds.length = Tryz.f7.params.size) : (Rows.elabTextsSpec.fn K ds).results = [.lit (.bool true)] ∧ (Rows.elabTextsSpec.fn K ds).args = ds ∧ (Rows.elabTextsSpec.fn K ds).vars = [] := by
  rw [Tryz.params7] at h
  match ds, h with
  | [_, _], _ => exact ⟨rfl, rfl, rfl⟩
theorem types : ∀ t', t' ∈ Tryz.f7.params.toList → Tryz.prog.readableRec t' = true ∧ t' < Tryz.prog.types.size := by
  rw [Tryz.params7]
  intro t' h
  simp at h
  subst h
  exact ⟨by kernel_rfl, of_decide_eq_true (by kernel_rfl)⟩
def wArgs : Array Value := #[.agg #[.string ⟨#[]⟩, .slice none 0 0, .slice none 0 0, .slice none 0 0], .agg #[.string ⟨#[]⟩, .slice none 0 0, .slice none 0 0, .slice none 0 0]]
theorem reads (os : Os) {H : Type} (enc : TypeId × Value → H) : ∃ places, DataW.whole enc Tryz.prog ((laidW os).forCall (fun _ _ => 0) ⟨#[], wArgs, []⟩).memory Tryz.f7.params.toList Rows.elabTextsSpec.vars false wArgs.toList 8 = some ([.agg [.lit (.string []), .nil, .nil, .nil], .agg [.lit (.string []), .nil, .nil, .nil]], [], places) :=
  ⟨[], by kernel_rfl⟩
theorem lifted (os : Os) (started : os.Started) (H : Type) (enc : TypeId × Value → H) (F : Stop.Interp) :
    ReturnsInHanded {} Tryz.checked os 7 .any ((OpenSpec.ofChange Rows.elabTextsSpec).preRow enc Tryz.prog Tryz.f7 Rows.elabTextsRow.domain false Rows.elabTextsRow.laid) (((OpenSpec.ofChange Rows.elabTextsSpec).at F).post enc Tryz.prog Tryz.f7 false true false false) := by
  obtain ⟨places, hx⟩ := reads os enc
  refine returnsInHanded_of_row (C := Tryz.checked) (s := OpenSpec.ofChange Rows.elabTextsSpec) own_knob started (by kernel_rfl) Tryz.func7
    (witness_row_at (enc := enc) (C := Tryz.checked) false (laidW os) wArgs rfl (by kernel_rfl) (by kernel_rfl) (by kernel_rfl)
      (OpenSpec.preRow_of_cond 8 hx (by kernel_rfl) (fun k hk => by cases hk) (by kernel_rfl) (laid_met os))) ?_
  intro W base args ds gs before hval hW _ _ hz hlaid hsh _
  refine calls_argsE (s := Rows.elabTextsSpec) (by kernel_rfl) types (t := 4) (by kernel_rfl) Tryz.underlying4 rfl spec_same (by kernel_rfl) hW hsh fun p hA => run hlaid hval hA fun i t d h1 h2 => ?_
  refine light_at hz (i := i) ?_ ?_
  · rw [List.getElem?_append_left (List.getElem?_eq_some_iff.1 h1).1]; exact h1
  · rw [List.getElem?_append_left (List.getElem?_eq_some_iff.1 h2).1]; exact h2
theorem said : Rows.ElabTextsSaid :=
  OpenClaim.holds_of_cond 7 Tryz.f7 rfl rfl rfl rfl rfl rfl rfl ⟨rfl, rfl, rfl, rfl, rfl⟩ rfl rfl rfl rfl rfl (by kernel_rfl) Tryz.func7 (by kernel_rfl)
    (of_decide_eq_true (by kernel_rfl)) (by unfold Func.isWrapper; first | (rw [if_pos (by decide +kernel)]; kernel_rfl) | (rw [if_neg (by decide +kernel)]; exact ⟨rfl, rfl⟩))
    (fun os started H enc _ F => by rw [OpenClaim.pre_eq_preRow]; exact lifted os started H enc F)
theorem plain (f : FuncId) (fn : Func) (hf : Tryz.pinned.checked.prog.funcNamed "brickyard/brickyardlaw15.ElabTexts" = some f) (hfn : Tryz.pinned.checked.prog.funcs[f]? = some fn) :
    true = Tryz.pinned.checked.prog.looks [] ∧ ∀ (j : Nat) t, fn.params[j]? = some t → Tryz.pinned.checked.prog.wantsStandIn t = false := by
  obtain rfl : f = 7 := Option.some.inj ((show Tryz.prog.funcNamed "brickyard/brickyardlaw15.ElabTexts" = some 7 by kernel_rfl).symm.trans hf) |>.symm
  obtain rfl : fn = Tryz.f7 := (Option.some.inj (Tryz.func7.symm.trans hfn)).symm
  refine ⟨by kernel_rfl, fun j t ht => ?_⟩
  rw [Tryz.params7] at ht
  have := Array.mem_of_getElem? ht
  simp at this
  subst this
  exact (show Tryz.prog.wantsStandIn 62 = false by kernel_rfl)
end RElabTexts
theorem elabTexts_holds : Rows.ElabTextsCardSaid :=
  Claim7.holds_tied_plain_at .later [] _ _ _ _ RElabTexts.said (fun _ h => by cases h) (by kernel_rfl) (fun _ h => by cases h) elabTexts_row_tie rfl ⟨rfl, rfl⟩ (by kernel_rfl) rfl RElabTexts.plain (by kernel_rfl)
end Go.Proofs.YtamoepfiodgbbaaGreatDoor
