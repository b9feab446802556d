/- Of this seat's law SchedTurns: whenever it is called it answers true, and its arguments read afterwards as they read before. The condition is the row's own: the three listed tables hold what the program's text lays, and the card ties that to the text. -/
import Derived.Test.YtgdkekdedgkglaaDoorAb1
import Derived.Test.YtgdkekdedgkglaaDoorAb2
import Derived.Test.YtgdkekdedgkglaaDoorAb3
import Derived.Test.YtgdkekdedgkglaaDoorAb4
import Derived.Test.YtgdkekdedgkglaaDoorCd1
import Derived.Test.YtgdkekdedgkglaaDoorCd2
import Derived.Test.YtgdkekdedgkglaaDoorCd3
import Derived.Test.YtgdkekdedgkglaaDoorAb5
import Derived.Test.YtgdkekdedgkglaaDoorCards
import Derived.Test.YtgdkekdedgkglaaDoorTie
import Derived.OpenShut
set_option linter.unusedVariables false
set_option linter.unusedSimpArgs false
set_option linter.unusedSectionVars false
open Go.RowKit
namespace Go.Proofs.YtgdkekdedgkglaaDoor
open Go.Abs Go.Abs.Sch Go.ChangeShapes Go.WideShapes
set_option maxRecDepth 100000
theorem cells3 : Tryd.prog.cellsOf 3 = 1 := by kernel_rfl
theorem own_knob : ownKnob Tryd.prog.godebug = none := by kernel_rfl
section
variable {H : Type} {enc : TypeId × Value → H} {W : World}
theorem flat1 : ∀ l : List Int, l.flatMap (fun n : Int => [Value.int .i64 n]) = ints l
  | [] => rfl
  | x :: l => by rw [List.flatMap_cons, flat1 l]; rfl
theorem i64_same (n : Int) (u : Value) (hu : u ∈ [Value.int .i64 n]) : norm W.heap.size u = u ∧ VRel (argMap W.heap.size) u u := by
  simp at hu; subst hu; exact ⟨rfl, .int _ _⟩
theorem st_run {args : Array Value} {ds : List (DataW H)} {p : List MemPlace} {base : Nat} (hval : ∀ (j : Nat) t v, Tryd.f3.params[j]? = some t → args[j]? = some v → Value.okWide Tryd.prog W .any base t v) (hA0 : DataW.TrodAll enc Tryd.prog W 0 (fun _ => true) true Tryd.f3.params.toList args.toList ds p) :
    LRel (argMap W.heap.size) (args.toList.map (norm W.heap.size)) args.toList ∧ EvQ Tryd.prog 3 (args.toList.map (norm W.heap.size)) (mir W) fun v _ => v = .bool true := by
  have hA := hA0
  rw [Tryd.params3] at hA hval
  obtain ⟨v0, v1, v2, d0, d1, d2, p0, p1, p2, rfl, _, _, ⟨n0, h0⟩, ⟨n1, h1⟩, ⟨n2, h2⟩⟩ := trodAll_three hA
  obtain ⟨slots, e0, _, _⟩ := open_i64 Tryd.underlying3 h0
  obtain ⟨n, e1, _, _⟩ := open_i64 Tryd.underlying3 h1
  obtain ⟨_, rfl⟩ := okWide_int Tryd.underlying3 (hval 0 3 v0 rfl rfl)
  obtain ⟨_, rfl⟩ := okWide_int Tryd.underlying3 (hval 1 3 v1 rfl rfl)
  obtain ⟨_, _, _, rfl⟩ := okWide_slice Tryd.underlying22 (hval 2 22 v2 rfl rfl)
  cases e0
  cases e1
  obtain ⟨v, a', cap, l, e2, hv, hn, _, _, _, hw⟩ := open_view (W := W) (fun n : Int => [Value.int .i64 n]) (fun _ => cells3.symm) (fun _ => True) (fun n _ => i64_same n) (fun _ c y hy => by obtain ⟨n, hn, _⟩ := open_i64 Tryd.underlying3 hy; exact ⟨n, hn, trivial⟩) Tryd.underlying22 (by rw [cells3]; decide) h2
  cases e2
  refine ⟨?_, ?_⟩
  · show LRel _ [.int .i64 slots, .int .i64 n, norm _ _] [.int .i64 slots, .int .i64 n, _]
    exact L2.cons (.int _ _) (L2.cons (.int _ _) (L2.cons hv L2.nil))
  · show EvQ P f_brickyardlaw20_SchedTurns [.int .i64 slots, .int .i64 n, norm _ _] (mir W) _
    erw [hn]
    have hfl : l.flatMap (fun n : Int => [Value.int .i64 n]) = ints l := by
      exact flat1 l
    rw [hfl] at hw
    refine turns_ok (arg_own (l := [(a', ints l)]) ?_) (Rd.of_ro (c := 0) (by simp) rfl (List.mem_singleton.2 rfl) (SubOf.self ?_)) fun _ => rfl
    · intro a vs hm
      simp at hm
      obtain ⟨rfl, rfl⟩ := hm
      exact hw
    · rintro b rfl
      rcases hw with ⟨e, _⟩ | ⟨i, off, e, _⟩
      · cases e
      · cases e; rfl
end

theorem spec_same (K : Type) (ds : List (DataW K)) (h : ds.length = Tryd.f3.params.size) : (Rows.schedTurnsSpec.fn K ds).results = [.lit (.bool true)] ∧ (Rows.schedTurnsSpec.fn K ds).args = ds ∧ (Rows.schedTurnsSpec.fn K ds).vars = [] := by
  rw [Tryd.params3] at h
  match ds, h with
  | [_, _, _], _ => exact ⟨rfl, rfl, rfl⟩
theorem st_types : ∀ t', t' ∈ Tryd.f3.params.toList → Tryd.prog.readableRec t' = true ∧ t' < Tryd.prog.types.size := by
  rw [Tryd.params3]
  intro t' h
  simp at h
  rcases h with rfl | rfl
  · exact ⟨by kernel_rfl, of_decide_eq_true (by kernel_rfl)⟩
  · exact ⟨by kernel_rfl, of_decide_eq_true (by kernel_rfl)⟩

/-- A world for the witness: the tables hold what their initialisers lay. -/
noncomputable def laidWorld (os : Os) : World :=
  { World.holding Tryd.prog os ⟨#[], #[], []⟩ with heap := putTab (World.holding Tryd.prog os ⟨#[], #[], []⟩).heap [(4, Rows.laid_math_bits_deBruijn32tab), (5, Rows.laid_math_bits_deBruijn64tab), (2, Rows.laid_internal_strconv_uint64pow10)] }
def wArgs : Array Value := #[.int .i64 0, .int .i64 0, .slice none 0 0]
theorem laid_met (os : Os) : laidMet Tryd.prog Rows.schedTurnsRow.laid ((laidWorld os).forCall (fun _ _ => 0) ⟨#[], wArgs, []⟩).memory :=
  laidMet_of_run' 8 (by kernel_rfl) (by kernel_rfl)
theorem reads (os : Os) {H : Type} (enc : TypeId × Value → H) : ∃ places, DataW.whole enc Tryd.prog ((laidWorld os).forCall (fun _ _ => 0) ⟨#[], wArgs, []⟩).memory Tryd.f3.params.toList Rows.schedTurnsSpec.vars false wArgs.toList 8 = some ([.lit (.int .i64 0), .lit (.int .i64 0), .nil], [], places) :=
  ⟨[], by kernel_rfl⟩
theorem lifted (os : Os) (started : os.Started) (H : Type) (enc : TypeId × Value → H) (F : Stop.Interp) :
    ReturnsInHanded {} Tryd.checked os 3 .any ((OpenSpec.ofChange Rows.schedTurnsSpec).preRow enc Tryd.prog Tryd.f3 Rows.schedTurnsRow.domain false Rows.schedTurnsRow.laid) (((OpenSpec.ofChange Rows.schedTurnsSpec).at F).post enc Tryd.prog Tryd.f3 false true false false) := by
  obtain ⟨places, hx⟩ := reads os enc
  refine returnsInHanded_of_row (C := Tryd.checked) (s := OpenSpec.ofChange Rows.schedTurnsSpec) own_knob started (by kernel_rfl) Tryd.func3
    (witness_row_at (enc := enc) (C := Tryd.checked) false (laidWorld os) wArgs rfl (by kernel_rfl) (by kernel_rfl) (by kernel_rfl)
      (OpenSpec.preRow_of_cond 8 hx (by kernel_rfl) (fun k hk => by cases hk) (by kernel_rfl) (laid_met os))) ?_
  intro W base args ds gs before hval hW _ _ _ _ hsh _
  exact calls_args (s := Rows.schedTurnsSpec) (by kernel_rfl) st_types (t := 4) (by kernel_rfl) Tryd.underlying4 rfl spec_same (by kernel_rfl) hW hsh fun p hA => st_run hval hA
theorem said : Rows.SchedTurnsSaid :=
  OpenClaim.holds_of_cond 3 Tryd.f3 rfl rfl rfl rfl rfl rfl rfl ⟨rfl, rfl, rfl, rfl, rfl⟩ rfl rfl rfl rfl rfl (by kernel_rfl) Tryd.func3 (by kernel_rfl)
    (of_decide_eq_true (by kernel_rfl)) (by unfold Func.isWrapper; first | (rw [if_pos (by decide +kernel)]; kernel_rfl) | (rw [if_neg (by decide +kernel)]; exact ⟨rfl, rfl⟩))
    (fun os started H enc _ F => by rw [OpenClaim.pre_eq_preRow]; exact lifted os started H enc F)
theorem plain (f : FuncId) (fn : Func) (hf : Tryd.pinned.checked.prog.funcNamed "brickyard/brickyardlaw20.SchedTurns" = some f) (hfn : Tryd.pinned.checked.prog.funcs[f]? = some fn) :
    true = Tryd.pinned.checked.prog.looks [] ∧ ∀ (j : Nat) t, fn.params[j]? = some t → Tryd.pinned.checked.prog.wantsStandIn t = false := by
  obtain rfl : f = 3 := Option.some.inj ((show Tryd.prog.funcNamed "brickyard/brickyardlaw20.SchedTurns" = some 3 by kernel_rfl).symm.trans hf) |>.symm
  obtain rfl : fn = Tryd.f3 := (Option.some.inj (Tryd.func3.symm.trans hfn)).symm
  refine ⟨by kernel_rfl, fun j t ht => ?_⟩
  rw [Tryd.params3] at ht
  have := Array.mem_of_getElem? ht
  simp at this
  rcases this with rfl | rfl
  · exact (show Tryd.prog.wantsStandIn 3 = false by kernel_rfl)
  · exact (show Tryd.prog.wantsStandIn 22 = false by kernel_rfl)
theorem schedTurns_holds : Rows.SchedTurnsCardSaid :=
  Claim7.holds_tied_plain_at .later [] _ _ _ _ said (fun _ h => by cases h) (by kernel_rfl) (fun _ h => by cases h) schedTurns_row_tie rfl ⟨rfl, rfl⟩ (by kernel_rfl) rfl plain (by kernel_rfl)
end Go.Proofs.YtgdkekdedgkglaaDoor
