/- Of this seat's law SchedPlays: whenever it is called, on every schedule, it answers true, and its arguments read afterwards as they read before. No condition. -/
import Derived.Test.YtgdkekdedgkglaaAb1
import Derived.Test.YtgdkekdedgkglaaAb2
import Derived.Test.YtgdkekdedgkglaaAb3
import Derived.Test.YtgdkekdedgkglaaAb4
import Derived.Test.YtgdkekdedgkglaaAb5
import Derived.Test.YtgdkekdedgkglaaCd1
import Derived.Test.YtgdkekdedgkglaaCd2
import Derived.Test.YtgdkekdedgkglaaCd3
import Derived.Test.YtgdkekdedgkglaaCd4
import Derived.Test.YtgdkekdedgkglaaCd5
import Derived.Test.YtgdkekdedgkglaaAb6
import Derived.Test.YtgdkekdedgkglaaRows
set_option linter.unusedVariables false
set_option linter.unusedSimpArgs false
set_option linter.unusedSectionVars false
open Go.RowKit
namespace Go.Proofs.Ytgdkekdedgkglaa
open Go.Abs Go.Abs.Sch Go.ChangeShapes Go.WideShapes
set_option maxRecDepth 100000
theorem own_knob : ownKnob Try.prog.godebug = none := by kernel_rfl
theorem cells3 : Try.prog.cellsOf 3 = 1 := by kernel_rfl
theorem cells9 : Try.prog.cellsOf 9 = 1 := by kernel_rfl
theorem cells40 : Try.prog.cellsOf 40 = 4 := by kernel_rfl
section
variable {H : Type} {enc : TypeId × Value → H} {W : World}
theorem cl_same (c : Cl) (u : Value) (hu : u ∈ clCells c) : norm W.heap.size u = u ∧ VRel (argMap W.heap.size) u u := by
  simp only [clCells, List.mem_cons, List.not_mem_nil, or_false] at hu
  rcases hu with rfl | rfl | rfl | rfl
  · exact ⟨rfl, .int _ _⟩
  · exact ⟨rfl, .string _⟩
  · exact ⟨rfl, .string _⟩
  · exact ⟨rfl, .int _ _⟩
theorem open_cl (n : Nat) (c : List Value) (y : DataW H × List MemPlace) (h : DataW.trod enc Try.prog W 0 (fun _ => true) true n 40 c = some y) : ∃ x : Cl, c = clCells x ∧ True := by
  obtain ⟨hl, m, hf⟩ := open_struct Try.underlying40 h
  rw [cells40] at hl
  match c, hl with
  | [a, b, c, d], _ =>
    obtain ⟨y0, h0⟩ := hf 0 _ rfl
    obtain ⟨y1, h1⟩ := hf 1 _ rfl
    obtain ⟨y2, h2⟩ := hf 2 _ rfl
    obtain ⟨y3, h3⟩ := hf 3 _ rfl
    have h0 : DataW.trod enc Try.prog W 0 (fun _ => true) true m 3 (([a, b, c, d].drop 0).take (Try.prog.cellsOf 3)) = some y0 := h0
    have h1 : DataW.trod enc Try.prog W 0 (fun _ => true) true m 9 (([a, b, c, d].drop 1).take (Try.prog.cellsOf 9)) = some y1 := h1
    have h2 : DataW.trod enc Try.prog W 0 (fun _ => true) true m 9 (([a, b, c, d].drop 2).take (Try.prog.cellsOf 9)) = some y2 := h2
    have h3 : DataW.trod enc Try.prog W 0 (fun _ => true) true m 3 (([a, b, c, d].drop 3).take (Try.prog.cellsOf 3)) = some y3 := h3
    rw [cells3] at h0 h3
    rw [cells9] at h1 h2
    obtain ⟨k, e0, _⟩ := open_i64 Try.underlying3 h0
    obtain ⟨s, e1, _⟩ := open_str Try.underlying9 h1
    obtain ⟨u, e2, _⟩ := open_str Try.underlying9 h2
    obtain ⟨n, e3, _⟩ := open_i64 Try.underlying3 h3
    have e0 : [a] = [_] := e0
    have e1 : [b] = [_] := e1
    have e2 : [c] = [_] := e2
    have e3 : [d] = [_] := e3
    cases e0; cases e1; cases e2; cases e3
    exact ⟨⟨k, s, u, n⟩, rfl, trivial⟩
theorem sp_run {args : Array Value} {ds : List (DataW H)} {p : List MemPlace} {base : Nat} (hval : ∀ (j : Nat) t v, Try.f4.params[j]? = some t → args[j]? = some v → Value.okWide Try.prog W .any base t v) (hA0 : DataW.TrodAll enc Try.prog W 0 (fun _ => true) true Try.f4.params.toList args.toList ds p) :
    LRel (argMap W.heap.size) (args.toList.map (norm W.heap.size)) args.toList ∧ EvQ Try.prog 4 (args.toList.map (norm W.heap.size)) (mir W) fun v _ => v = .bool true := by
  have hA := hA0
  rw [Try.params4] at hA hval
  obtain ⟨v0, v1, d0, d1, p0, p1, rfl, _, _, ⟨n0, h0⟩, ⟨n1, h1⟩⟩ := trodAll_two hA
  obtain ⟨slots, e0, _, _⟩ := open_i64 Try.underlying3 h0
  obtain ⟨_, rfl⟩ := okWide_int Try.underlying3 (hval 0 3 v0 rfl rfl)
  obtain ⟨_, _, _, rfl⟩ := okWide_slice Try.underlying36 (hval 1 36 v1 rfl rfl)
  cases e0
  obtain ⟨v, a', cap, l, e2, hv, hn, _, _, _, hw⟩ := open_view (W := W) clCells (fun c => (cl_len c).trans cells40.symm) (fun _ => True) (fun n _ => cl_same n) (fun n c y hy => open_cl n c y hy) Try.underlying36 (by rw [cells40]; decide) h1
  cases e2
  refine ⟨?_, ?_⟩
  · show LRel _ [.int .i64 slots, norm _ _] [.int .i64 slots, _]
    exact L2.cons (.int _ _) (L2.cons hv L2.nil)
  · show EvQ P f_brickyardlaw20_SchedPlays [.int .i64 slots, norm _ _] (mir W) _
    erw [hn]
    refine plays_ok (arg_own (l := [(a', l.flatMap clCells)]) ?_) (Rd.of_ro (c := 0) (by simp) rfl (List.mem_singleton.2 rfl) (SubOf.self ?_)) fun _ => rfl
    · intro a vs hm
      simp at hm
      obtain ⟨rfl, rfl⟩ := hm
      exact hw
    · rintro b rfl
      rcases hw with ⟨e, _⟩ | ⟨i, off, e, _⟩
      · cases e
      · cases e; rfl
end
theorem spec_same (K : Type) (ds : List (DataW K)) (h : ds.length = Try.f4.params.size) : (Rows.schedPlaysSpec.fn K ds).results = [.lit (.bool true)] ∧ (Rows.schedPlaysSpec.fn K ds).args = ds ∧ (Rows.schedPlaysSpec.fn K ds).vars = [] := by
  rw [Try.params4] at h
  match ds, h with
  | [_, _], _ => exact ⟨rfl, rfl, rfl⟩
theorem sp_types : ∀ t', t' ∈ Try.f4.params.toList → Try.prog.readableRec t' = true ∧ t' < Try.prog.types.size := by
  rw [Try.params4]
  intro t' h
  simp at h
  rcases h with rfl | rfl
  · exact ⟨by kernel_rfl, of_decide_eq_true (by kernel_rfl)⟩
  · exact ⟨by kernel_rfl, of_decide_eq_true (by kernel_rfl)⟩
theorem lifted (os : Os) (started : os.Started) (H : Type) (enc : TypeId × Value → H) :
    ReturnsInHanded {} Try.checked os 4 .any (Rows.schedPlaysSpec.pre6 enc Try.prog Try.f4 Rows.schedPlaysRow.domain false) (Rows.schedPlaysSpec.post enc Try.prog Try.f4 false true false false) :=
  handed_args (C := Try.checked) own_knob started (by kernel_rfl) Try.func4
    (ChangeSpec.witness6 (enc := enc) (C := Try.checked) false ⟨#[], #[.int .i64 0, .slice none 0 0], []⟩ 8 (by kernel_rfl) (by kernel_rfl) (by kernel_rfl) (by kernel_rfl))
    (by kernel_rfl) sp_types (t := 4) (by kernel_rfl) Try.underlying4 rfl spec_same (by kernel_rfl) fun W base args ds p hval _ _ hA => sp_run hval hA
theorem schedPlays_holds : Rows.SchedPlaysSaid :=
  OpenClaim.holds_of_wide_leaving 4 Try.f4 rfl rfl rfl rfl rfl rfl rfl ⟨rfl, rfl, rfl, rfl, rfl⟩ rfl rfl rfl rfl rfl (by kernel_rfl) Try.func4 (by kernel_rfl)
    (of_decide_eq_true (by kernel_rfl)) (by unfold Func.isWrapper; first | (rw [if_pos (by decide +kernel)]; kernel_rfl) | (rw [if_neg (by decide +kernel)]; exact ⟨rfl, rfl⟩))
    (fun os started H enc _ => leaving_of_handed (lifted os started H enc))
end Go.Proofs.Ytgdkekdedgkglaa
