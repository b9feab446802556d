/- Of this seat's law SchedFlows: whenever it is called it answers true, and its arguments read afterwards as they read before. The condition is the row's own: the listed package variables hold what the program's text lays, and the card ties that to the text. -/
import Derived.Test.YtgdkekdedgkglaaDoorAb1
import Derived.Test.YtgdkekdedgkglaaDoorAb2
import Derived.Test.YtgdkekdedgkglaaDoorAb3
import Derived.Test.YtgdkekdedgkglaaDoorAb4
import Derived.Test.YtgdkekdedgkglaaDoorAb5
import Derived.Test.YtgdkekdedgkglaaDoorAb6
import Derived.Test.YtgdkekdedgkglaaDoorCd1
import Derived.Test.YtgdkekdedgkglaaDoorCd2
import Derived.Test.YtgdkekdedgkglaaDoorCd3
import Derived.Test.YtgdkekdedgkglaaDoorCd4
set_option linter.unusedVariables false
set_option linter.unusedSimpArgs false
set_option linter.unusedSectionVars false
open Go.RowKit
namespace Go.Proofs.YtgdkekdedgkglaaDoor
open Go.Abs Go.Abs.Fo Go.ChangeShapes Go.WideShapes
set_option maxRecDepth 100000
namespace RSchedFlows
section
variable {H : Type} {enc : TypeId × Value → H} {W : World}
theorem run {args : Array Value} {ds : List (DataW H)} {p : List MemPlace} {base : Nat} (hlaid0 : laidMetH Tryd.prog Rows.schedFlowsRow.laid W) (hval : ∀ (j : Nat) t v, Tryd.f10.params[j]? = some t → args[j]? = some v → Value.okWide Tryd.prog W .any base t v) (hA0 : DataW.TrodAll enc Tryd.prog W 0 (fun _ => true) true Tryd.f10.params.toList args.toList ds p)
    (hz0 : ∀ (i : Nat) (t : TypeId) (d : DataW H), Tryd.f10.params.toList[i]? = some t → ds[i]? = some d → Light Tryd.prog t d) :
    LRel (argMap W.heap.size) (args.toList.map (norm W.heap.size)) args.toList ∧ EvQ Tryd.prog 10 (args.toList.map (norm W.heap.size)) (mir W) fun v _ => v = .bool true := by
  have hA := hA0
  have hz := hz0
  rw [Tryd.params10] at hA hz hval
  obtain ⟨v0, v1, v2, v3, d0, d1, d2, d3, p0, p1, p2, p3, rfl, rfl, rfl, ⟨n0, h0⟩, ⟨n1, h1⟩, ⟨n2, h2⟩, ⟨n3, h3⟩⟩ := trodAll_four hA
  obtain ⟨slots, e0, _, _⟩ := open_i64 Tryd.underlying3 h0
  obtain ⟨_, rfl⟩ := okWide_int Tryd.underlying3 (hval 0 3 v0 rfl rfl)
  obtain ⟨_, _, _, rfl⟩ := okWide_slice Tryd.underlying56 (hval 1 56 v1 rfl rfl)
  obtain ⟨_, _, _, rfl⟩ := okWide_slice Tryd.underlying22 (hval 2 22 v2 rfl rfl)
  obtain ⟨_, _, _, rfl⟩ := okWide_slice Tryd.underlying22 (hval 3 22 v3 rfl rfl)
  obtain ⟨u1, a1, c1, ps, vs1, e1, r1, m1, k1, _, g1, i1, y1⟩ := open_rows (P := Tryd.prog) (tW := 56) (tA := 22) (tS := 3) Tryd.underlying56 Tryd.underlying22 Tryd.underlying3 (by kernel_rfl) (by kernel_rfl) (of_decide_eq_true (by kernel_rfl)) (of_decide_eq_true (by kernel_rfl)) h1 (hz 1 56 d1 rfl rfl)
  obtain ⟨u2, a2, c2, l2, vs2, e2, r2, m2, k2, _, _, g2, i2⟩ := open_ints (P := Tryd.prog) (tA := 22) (tS := 3) Tryd.underlying22 Tryd.underlying3 (by kernel_rfl) (of_decide_eq_true (by kernel_rfl)) h2 (hz 2 22 d2 rfl rfl)
  obtain ⟨u3, a3, c3, l3, vs3, e3, r3, m3, k3, _, _, g3, i3⟩ := open_ints (P := Tryd.prog) (tA := 22) (tS := 3) Tryd.underlying22 Tryd.underlying3 (by kernel_rfl) (of_decide_eq_true (by kernel_rfl)) h3 (hz 3 22 d3 rfl rfl)
  cases e0
  cases e1
  cases e2
  cases e3
  refine ⟨?_, ?_⟩
  · show LRel _ [.int .i64 slots, norm _ _, norm _ _, norm _ _] [.int .i64 slots, _, _, _]
    exact L2.cons (.int _ _) (L2.cons r1 (L2.cons r2 (L2.cons r3 L2.nil)))
  · show EvQ P f_brickyardlaw20_SchedFlows [.int .i64 slots, norm _ _, norm _ _, norm _ _] (mir W) _
    erw [m1, m2, m3]
    have G := (g1.app g2).app g3
    have := flows_ok (slots := slots) (qs0 := ps.map iwOf) (c0 := c1) (wc := c2) (pc := c3) (good_own G) (ask_of G (fun x h => by simp [h]) i1 y1) (Vin.vw G (i2.mono fun x h => by simp [h])) (Vin.vw G (i3.mono fun x h => by simp [h])) (Q := fun v _ => v = .bool true) fun _ => rfl
    rw [List.length_map] at this
    exact this
end
theorem spec_same (K : Type) (ds : List (DataW K)) (h : ds.length = Tryd.f10.params.size) : (Rows.schedFlowsSpec.fn K ds).results = [.lit (.bool true)] ∧ (Rows.schedFlowsSpec.fn K ds).args = ds ∧ (Rows.schedFlowsSpec.fn K ds).vars = [] := by
  rw [Tryd.params10] at h
  match ds, h with
  | [_, _, _, _], _ => exact ⟨rfl, rfl, rfl⟩
theorem types : ∀ t', t' ∈ Tryd.f10.params.toList → Tryd.prog.readableRec t' = true ∧ t' < Tryd.prog.types.size := by
  rw [Tryd.params10]
  intro t' h
  simp at h
  rcases h with rfl | rfl | rfl <;> exact ⟨by kernel_rfl, of_decide_eq_true (by kernel_rfl)⟩
def wArgs : Array Value := #[.int .i64 0, .slice none 0 0, .slice none 0 0, .slice none 0 0]
theorem reads (os : Os) {H : Type} (enc : TypeId × Value → H) : ∃ places, DataW.whole enc Tryd.prog ((laidW os).forCall (fun _ _ => 0) ⟨#[], wArgs, []⟩).memory Tryd.f10.params.toList Rows.schedFlowsSpec.vars false wArgs.toList 8 = some ([.lit (.int .i64 0), .nil, .nil, .nil], [], places) :=
  ⟨[], by kernel_rfl⟩
theorem lifted (os : Os) (started : os.Started) (H : Type) (enc : TypeId × Value → H) (F : Stop.Interp) :
    ReturnsInHanded {} Tryd.checked os 10 .any ((OpenSpec.ofChange Rows.schedFlowsSpec).preRow enc Tryd.prog Tryd.f10 Rows.schedFlowsRow.domain false Rows.schedFlowsRow.laid) (((OpenSpec.ofChange Rows.schedFlowsSpec).at F).post enc Tryd.prog Tryd.f10 false true false false) := by
  obtain ⟨places, hx⟩ := reads os enc
  refine returnsInHanded_of_row (C := Tryd.checked) (s := OpenSpec.ofChange Rows.schedFlowsSpec) own_knob started (by kernel_rfl) Tryd.func10
    (witness_row_at (enc := enc) (C := Tryd.checked) false (laidW os) wArgs rfl (by kernel_rfl) (by kernel_rfl) (by kernel_rfl)
      (OpenSpec.preRow_of_cond 8 hx (by kernel_rfl) (fun k hk => by cases hk) (by kernel_rfl) (laid_met os))) ?_
  intro W base args ds gs before hval hW _ _ hz hlaid hsh _
  refine calls_args (s := Rows.schedFlowsSpec) (by kernel_rfl) types (t := 4) (by kernel_rfl) Tryd.underlying4 rfl spec_same (by kernel_rfl) hW hsh fun p hA => run hlaid hval hA fun i t d h1 h2 => ?_
  refine light_at hz (i := i) ?_ ?_
  · rw [List.getElem?_append_left (List.getElem?_eq_some_iff.1 h1).1]; exact h1
  · rw [List.getElem?_append_left (List.getElem?_eq_some_iff.1 h2).1]; exact h2
theorem said : Rows.SchedFlowsSaid :=
  OpenClaim.holds_of_cond 10 Tryd.f10 rfl rfl rfl rfl rfl rfl rfl ⟨rfl, rfl, rfl, rfl, rfl⟩ rfl rfl rfl rfl rfl (by kernel_rfl) Tryd.func10 (by kernel_rfl)
    (of_decide_eq_true (by kernel_rfl)) (by unfold Func.isWrapper; first | (rw [if_pos (by decide +kernel)]; kernel_rfl) | (rw [if_neg (by decide +kernel)]; exact ⟨rfl, rfl⟩))
    (fun os started H enc _ F => by rw [OpenClaim.pre_eq_preRow]; exact lifted os started H enc F)
theorem plain (f : FuncId) (fn : Func) (hf : Tryd.pinned.checked.prog.funcNamed "brickyard/brickyardlaw20.SchedFlows" = some f) (hfn : Tryd.pinned.checked.prog.funcs[f]? = some fn) :
    true = Tryd.pinned.checked.prog.looks [] ∧ ∀ (j : Nat) t, fn.params[j]? = some t → Tryd.pinned.checked.prog.wantsStandIn t = false := by
  obtain rfl : f = 10 := Option.some.inj ((show Tryd.prog.funcNamed "brickyard/brickyardlaw20.SchedFlows" = some 10 by kernel_rfl).symm.trans hf) |>.symm
  obtain rfl : fn = Tryd.f10 := (Option.some.inj (Tryd.func10.symm.trans hfn)).symm
  refine ⟨by kernel_rfl, fun j t ht => ?_⟩
  rw [Tryd.params10] at ht
  have := Array.mem_of_getElem? ht
  simp at this
  rcases this with rfl | rfl | rfl
  · exact (show Tryd.prog.wantsStandIn 22 = false by kernel_rfl)
  · exact (show Tryd.prog.wantsStandIn 3 = false by kernel_rfl)
  · exact (show Tryd.prog.wantsStandIn 56 = false by kernel_rfl)
end RSchedFlows
theorem schedFlows_holds : Rows.SchedFlowsCardSaid :=
  Claim7.holds_tied_plain_at .later [] _ _ _ _ RSchedFlows.said (fun _ h => by cases h) (by kernel_rfl) (fun _ h => by cases h) schedFlows_row_tie rfl ⟨rfl, rfl⟩ (by kernel_rfl) rfl RSchedFlows.plain (by kernel_rfl)
end Go.Proofs.YtgdkekdedgkglaaDoor
