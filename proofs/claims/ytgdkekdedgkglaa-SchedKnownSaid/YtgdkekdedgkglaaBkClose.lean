/- What a run of a function without parameters gives its row. -/
import Derived.Test.YtgdkekdedgkglaaBkDraw3
import Derived.ProofKit
import Derived.Conc.Holds
open Go.RowKit
namespace Go.Abs
open Go.ChangeShapes

/-- Every package variable of the program where the program lays it; behind them nothing. -/
def globMap (n : Nat) : Map := fun i => if i < n then some (i, 0, 0) else none

theorem glob_rel {n : Nat} {W : World} (hn : n ≤ W.heap.size) : HRel W.heap.size W (globMap n) ⟨n, .nil, .nil⟩ W := by
  refine ⟨Nat.le_refl _, Below.refl _ _, ?_, ?_, ?_, ?_⟩
  · intro i x hx
    unfold globMap at hx
    split at hx
    · rename_i hi
      simp only [Option.some.injEq] at hx; subst hx
      exact ⟨hi, Nat.lt_of_lt_of_le hi hn⟩
    · cases hx
  · intro i o ho; simp [T.get?] at ho
  · intro i f g lo hi sz cs ho; simp [T.get?] at ho
  · intro i j oi oj b σ κ σ' κ' _ ho; simp [T.get?] at ho

def saysTrue : Option (Value × AW) → Bool
  | some (.bool true, _) => true
  | _ => false

theorem closed_calls {P : Program} {n N : Nat} {f : FuncId} (hN : P.globals.size = N) (h : saysTrue (callF P n f [] ⟨N, .nil, .nil⟩) = true) {W : World} (hW : P.globals.size ≤ W.heap.size) :
    Calls P f #[] W fun e W' => e = .returned (.bool true) ∧ Below W.heap.size W W' := by
  unfold saysTrue at h
  split at h
  · rename_i h' hc
    subst hN
    obtain ⟨_, hcalls⟩ := calls_ok (B0 := W.heap.size) (w0 := W) n f [] _ _ _ hc
    refine (hcalls (globMap P.globals.size) W [] L2.nil (glob_rel hW) (fun g hg => by simp [globMap, hg])).mono fun e W' he => ?_
    obtain ⟨ψ, v', _, rfl, hv, H⟩ := he
    rw [hv.bool_inv]
    exact ⟨rfl, H.below⟩
  · cases h

section
variable {H : Type} {enc : TypeId × Value → H} {P : Program}

/-- The row's word behind a call without arguments that answers true and leaves alone what it found. -/
theorem post_closed {f : Func} {s : ChangeSpec} {apart fresh handsOn again : Bool} {W W' : World} {t : TypeId} {ds gs : List (DataW H)} {before : List MemPlace} (hp : f.params = #[]) (hr : f.resultTypes = #[t]) (ht : P.underlying t = some .bool) (hv : s.vars = [])
    (hs : ∀ (K : Type), (s.fn K []).results = [.lit (.bool true)] ∧ (s.fn K []).args = [] ∧ (s.fn K []).vars = []) (hW : DataW.Whole enc P f.params.toList s.vars apart W [] ds gs before) (hB : Below W.heap.size W W') :
    s.post enc P f apart fresh handsOn again W #[] (.bool true) W' := by
  have hW' := hW
  obtain ⟨p, q, hA, hV, rfl, hfz, hnd⟩ := hW
  rw [hp] at hA
  obtain ⟨_, rfl, rfl⟩ := trodAll_nil hA
  rw [hv] at hV
  obtain ⟨rfl, rfl⟩ := trodVars_none hV
  obtain ⟨h1, h2, h3⟩ := hs H
  have hres : ∀ (b : Nat) (sp : Nat → Bool) (hd : Bool), DataW.TrodAll enc P W' b sp hd f.resultTypes.toList ((Value.bool true).resultList f.resultTypes.size) [.lit (.bool true)] [] := by
    intro b sp hd
    rw [hr]
    exact trodAll_mk1 (shut_bool ht _)
  refine ⟨[], [], _, [], [], [], hW', by rw [List.append_nil, h1]; exact hres _ _ _, by rw [List.append_nil, h2, hp]; exact trodAll_mk0, by rw [List.append_nil, h3, hv]; exact rfl, hB.frame _, fun _ => ⟨?_, [.lit (.bool true)], [], [], ⟨[], [], ?_, by rw [hv]; exact rfl, rfl, fun b off hb => (by cases hb), fun _ => ?_⟩, fun p hp' => (by cases hp')⟩⟩
  · rw [hr]; exact ok_one (f := f) hr rfl (okWide_bool_mk ht _) |> fun hh => by rw [hr] at hh; exact hh
  · rw [hp, List.append_nil, List.append_nil]; exact hres _ _ _
  · simp
end

/-- A call that started no goroutine has left nobody behind. -/
theorem leaving_of_handed {a : Assume} {C : Checked} {os : Os} {f : FuncId} {r : Reach} {Pre : World → Array Value → Prop} {Post : World → Array Value → Value → World → Prop} (h : ReturnsInHanded a C os f r Pre Post) : ReturnsInLeavingWide a C os f r Pre Post := fun enter =>
  ReturnsInOpen.mono (fun last _ t hx => by
    obtain ⟨⟨h1, h2⟩, h3, h4⟩ := hx
    refine ⟨h3, ⟨fun g hg => ⟨0, ?_⟩, h2⟩, h4⟩
    have := List.all_eq_true.1 h1 g hg
    exact (by simpa using this : g.status = .finished)) (fun _ x => x) (h enter)

/-- The row of a function without parameters, out of its run. -/
theorem handed_closed {H : Type} {enc : TypeId × Value → H} {a : Assume} {C : Checked} {os : Os} {f : FuncId} {fn : Func} {s : ChangeSpec} {conds : List PathCond} {apart fresh handsOn again : Bool} {t : TypeId} {n N : Nat}
    (own : ownKnob C.prog.godebug = none) (started : os.Started) (noInit : C.prog.inits.idxOf? f = none) (hfn : C.prog.funcs[f]? = some fn)
    (witness : ∃ (w : World) (tape : Tape) (i : Input), w.os = os ∧ (w.forCall tape i).Shaped C.prog ∧ i.vars = [] ∧ Input.okWide C.prog (w.forCall tape i) .any w.heap.size f i ∧
      s.pre6 enc C.prog fn conds apart (w.forCall tape i).memory i.args ∧ a.holds C.prog (lone (Frame.enter C.prog f i.args .normal) [] (w.forCall tape i)))
    (hp : fn.params = #[]) (hr : fn.resultTypes = #[t]) (ht : C.prog.underlying t = some .bool) (hv : s.vars = [])
    (hs : ∀ (K : Type), (s.fn K []).results = [.lit (.bool true)] ∧ (s.fn K []).args = [] ∧ (s.fn K []).vars = [])
    (hN : C.prog.globals.size = N) (hlow : Nat.ble (C.prog.globals.size + 1) (begin C.prog (fun _ _ => 0) default).world.heap.size = true) (h : saysTrue (callF C.prog n f [] ⟨N, .nil, .nil⟩) = true) :
    ReturnsInHanded a C os f .any (s.pre6 enc C.prog fn conds apart) (s.post enc C.prog fn apart fresh handsOn again) := by
  refine returnsInHanded_of_calls own started noInit witness ?_
  intro w tape i _ hsh _ hok hpre _
  obtain ⟨⟨ds, gs, before, hw, hc⟩, _⟩ := hpre
  have hargs : i.args = #[] := by
    obtain ⟨p, q, hA, _⟩ := hw
    rw [hp] at hA
    exact (trodAll_none hA).1
  rw [hargs] at hw ⊢
  have hw' : DataW.Whole enc C.prog fn.params.toList s.vars apart (w.forCall tape i) (#[] : Array Value).toList ds gs before := DataW.Whole.of_heap (w' := w.forCall tape i) (by rfl) hw
  have hsz : C.prog.globals.size ≤ (w.forCall tape i).heap.size := by
    obtain ⟨o, _, ho, _⟩ := hsh.2 C.prog.globals.size (Nat.le_refl _) (Nat.le_of_ble_eq_true hlow)
    rcases Nat.lt_or_ge (w.forCall tape i).heap.size C.prog.globals.size with hx | hx
    · rw [Array.getElem?_eq_none (Nat.le_of_lt hx)] at ho; cases ho
    · exact hx
  refine (closed_calls hN h hsz).mono fun e W' he => ?_
  obtain ⟨rfl, hB⟩ := he
  exact ChangeSpec.post_blind (post_closed hp hr ht hv hs hw' hB)

end Go.Abs
