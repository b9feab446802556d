/- Of this seat's law ActionBack: whenever it is called it answers true, and its arguments read afterwards as they read before. The condition is the row's own: the listed package variables hold what the program's text lays, and the card ties that to the text. -/
import Derived.Test.YtgdkekdedgkglaaDoorAb1
import Derived.Test.YtgdkekdedgkglaaDoorAb2
import Derived.Test.YtgdkekdedgkglaaDoorAb3
import Derived.Test.YtgdkekdedgkglaaDoorAb4
import Derived.Test.YtgdkekdedgkglaaDoorAb5
import Derived.Test.YtgdkekdedgkglaaDoorAb6
import Derived.Test.YtgdkekdedgkglaaDoorCd1
import Derived.Test.YtgdkekdedgkglaaDoorCd2
import Derived.Test.YtgdkekdedgkglaaDoorCd3
import Derived.Test.YtgdkekdedgkglaaDoorCd4
import Derived.Test.YtgdkekdedgkglaaDoorCd5
import Derived.Test.YtgdkekdedgkglaaDoorCd6
import Derived.Test.YtgdkekdedgkglaaDoorCd7
set_option linter.unusedVariables false
set_option linter.unusedSimpArgs false
set_option linter.unusedSectionVars false
open Go.RowKit
namespace Go.Proofs.YtgdkekdedgkglaaDoor
open Go.Abs Go.Abs.Fo Go.ChangeShapes Go.WideShapes
set_option maxRecDepth 100000
namespace RActionBack
section
variable {H : Type} {enc : TypeId × Value → H} {W : World}
theorem run {args : Array Value} {ds : List (DataW H)} {p : List MemPlace} {base : Nat} (hlaid0 : laidMetH Tryd.prog Rows.actionBackRow.laid W) (hval : ∀ (j : Nat) t v, Tryd.f11.params[j]? = some t → args[j]? = some v → Value.okWide Tryd.prog W .any base t v) (hA0 : DataW.TrodAll enc Tryd.prog W 0 (fun _ => true) true Tryd.f11.params.toList args.toList ds p)
    (hz0 : ∀ (i : Nat) (t : TypeId) (d : DataW H), Tryd.f11.params.toList[i]? = some t → ds[i]? = some d → Light Tryd.prog t d) :
    LRel (argMap W.heap.size) (args.toList.map (norm W.heap.size)) args.toList ∧ EvQ Tryd.prog 11 (args.toList.map (norm W.heap.size)) (mir W) fun v _ => v = .bool true := by
  have hA := hA0
  have hz := hz0
  have hlaid : laidMet Tryd.prog Rows.actionBackRow.laid W := hlaid0
  have hpow := pow_good (hlaid.tail.tail)
  rw [Tryd.params11] at hA hz hval
  obtain ⟨v0, d0, rfl, rfl, ⟨n0, h0⟩⟩ := trodAll_one hA
  obtain ⟨_, _, _, rfl⟩ := okWide_slice Tryd.underlying37 (hval 0 37 v0 rfl rfl)
  obtain ⟨u0, a0, c0, ps, vs, e0, r0, m0, k0, _, l0, g0, i0, y0⟩ := open_lines (P := Tryd.prog) (tW := 37) (tA := 26) (tS := 9) Tryd.underlying37 Tryd.underlying26 Tryd.underlying9 (by kernel_rfl) (by kernel_rfl) (of_decide_eq_true (by kernel_rfl)) (of_decide_eq_true (by kernel_rfl)) h0 (hz 0 37 d0 rfl rfl)
  cases e0
  obtain ⟨w0, w1, ge, j0, j1⟩ := err_good hlaid.tail.tail.tail
  refine ⟨?_, ?_⟩
  · show LRel _ [norm _ _] [_]
    exact L2.cons r0 L2.nil
  · show EvQ P f_brickyardlaw13_ActionBack [norm _ _] (mir W) _
    erw [m0]
    have G := (g0.app ge).app hpow
    exact actionBack_ok (good_own G) (errs_of G (by simp) (by simp) j0 j1) (Vin.vw G (.inr (by simp))) (lns_of G (fun x h => by simp [h]) i0 y0) l0 fun _ => rfl
end
theorem spec_same (K : Type) (ds : List (DataW K)) (h : ds.length = Tryd.f11.params.size) : (Rows.actionBackSpec.fn K ds).results = [.lit (.bool true)] ∧ (Rows.actionBackSpec.fn K ds).args = ds ∧ (Rows.actionBackSpec.fn K ds).vars = [] := by
  rw [Tryd.params11] at h
  match ds, h with
  | [_], _ => exact ⟨rfl, rfl, rfl⟩
theorem types : ∀ t', t' ∈ Tryd.f11.params.toList → Tryd.prog.readableRec t' = true ∧ t' < Tryd.prog.types.size := by
  rw [Tryd.params11]
  intro t' h
  simp at h
  subst h
  exact ⟨by kernel_rfl, of_decide_eq_true (by kernel_rfl)⟩
def wArgs : Array Value := #[.slice none 0 0]
theorem reads (os : Os) {H : Type} (enc : TypeId × Value → H) : ∃ places, DataW.whole enc Tryd.prog ((laidW os).forCall (fun _ _ => 0) ⟨#[], wArgs, []⟩).memory Tryd.f11.params.toList Rows.actionBackSpec.vars false wArgs.toList 8 = some ([.nil], [], places) :=
  ⟨[], by kernel_rfl⟩
theorem lifted (os : Os) (started : os.Started) (H : Type) (enc : TypeId × Value → H) (F : Stop.Interp) :
    ReturnsInHanded {} Tryd.checked os 11 .any ((OpenSpec.ofChange Rows.actionBackSpec).preRow enc Tryd.prog Tryd.f11 Rows.actionBackRow.domain false Rows.actionBackRow.laid) (((OpenSpec.ofChange Rows.actionBackSpec).at F).post enc Tryd.prog Tryd.f11 false true false false) := by
  obtain ⟨places, hx⟩ := reads os enc
  refine returnsInHanded_of_row (C := Tryd.checked) (s := OpenSpec.ofChange Rows.actionBackSpec) own_knob started (by kernel_rfl) Tryd.func11
    (witness_row_at (enc := enc) (C := Tryd.checked) false (laidW os) wArgs rfl (by kernel_rfl) (by kernel_rfl) (by kernel_rfl)
      (OpenSpec.preRow_of_cond 8 hx (by kernel_rfl) (fun k hk => by cases hk) (by kernel_rfl) (laid_met os))) ?_
  intro W base args ds gs before hval hW _ _ hz hlaid hsh _
  refine calls_args (s := Rows.actionBackSpec) (by kernel_rfl) types (t := 4) (by kernel_rfl) Tryd.underlying4 rfl spec_same (by kernel_rfl) hW hsh fun p hA => run hlaid hval hA fun i t d h1 h2 => ?_
  refine light_at hz (i := i) ?_ ?_
  · rw [List.getElem?_append_left (List.getElem?_eq_some_iff.1 h1).1]; exact h1
  · rw [List.getElem?_append_left (List.getElem?_eq_some_iff.1 h2).1]; exact h2
theorem said : Rows.ActionBackSaid :=
  OpenClaim.holds_of_cond 11 Tryd.f11 rfl rfl rfl rfl rfl rfl rfl ⟨rfl, rfl, rfl, rfl, rfl⟩ rfl rfl rfl rfl rfl (by kernel_rfl) Tryd.func11 (by kernel_rfl)
    (of_decide_eq_true (by kernel_rfl)) (by unfold Func.isWrapper; first | (rw [if_pos (by decide +kernel)]; kernel_rfl) | (rw [if_neg (by decide +kernel)]; exact ⟨rfl, rfl⟩))
    (fun os started H enc _ F => by rw [OpenClaim.pre_eq_preRow]; exact lifted os started H enc F)
theorem plain (f : FuncId) (fn : Func) (hf : Tryd.pinned.checked.prog.funcNamed "brickyard/brickyardlaw13.ActionBack" = some f) (hfn : Tryd.pinned.checked.prog.funcs[f]? = some fn) :
    true = Tryd.pinned.checked.prog.looks [] ∧ ∀ (j : Nat) t, fn.params[j]? = some t → Tryd.pinned.checked.prog.wantsStandIn t = false := by
  obtain rfl : f = 11 := Option.some.inj ((show Tryd.prog.funcNamed "brickyard/brickyardlaw13.ActionBack" = some 11 by kernel_rfl).symm.trans hf) |>.symm
  obtain rfl : fn = Tryd.f11 := (Option.some.inj (Tryd.func11.symm.trans hfn)).symm
  refine ⟨by kernel_rfl, fun j t ht => ?_⟩
  rw [Tryd.params11] at ht
  have := Array.mem_of_getElem? ht
  simp at this
  subst this
  exact (show Tryd.prog.wantsStandIn 37 = false by kernel_rfl)
end RActionBack
theorem actionBack_holds : Rows.ActionBackCardSaid :=
  Claim7.holds_tied_plain_at .later [] _ _ _ _ RActionBack.said (fun _ h => by cases h) (by kernel_rfl) (fun _ h => by cases h) actionBack_row_tie rfl ⟨rfl, rfl⟩ (by kernel_rfl) rfl RActionBack.plain (by kernel_rfl)
end Go.Proofs.YtgdkekdedgkglaaDoor
