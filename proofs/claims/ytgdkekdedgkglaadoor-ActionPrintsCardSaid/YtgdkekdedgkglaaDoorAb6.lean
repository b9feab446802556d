/- A deterministic heap for the model, proved sound, and walks of the program over it: part 6. No condition. -/
import Derived.Test.YtgdkekdedgkglaaDoorAb1
import Derived.Test.YtgdkekdedgkglaaDoorAb2
import Derived.Test.YtgdkekdedgkglaaDoorAb3
import Derived.Test.YtgdkekdedgkglaaDoorAb4
import Derived.Test.YtgdkekdedgkglaaDoorAb5
import Derived.ChangeArms
import Derived.Lib.LaidTab
import Derived.Deep.DeepHandedRow
import Derived.Stop.LaidErr
set_option linter.unusedVariables false
set_option linter.unusedSimpArgs false
set_option linter.unusedSectionVars false
section
/- Arguments opened: what their reading says of the memory. -/
open Go.RowKit
namespace Go.Abs
open Go.ChangeShapes
section
variable {H : Type} {enc : TypeId × Value → H} {P : Program} {W : World} {fuel : Nat} {t e : TypeId} {cs : List Value} {x : DataW H × List MemPlace} {held : Bool}

theorem cell_block {a : Addr} {v : Value} (h : W.cell? a = some v) : a.block < W.heap.size ∧ a.spot = none := by
  unfold World.cell? at h
  split at h
  · rename_i c t fr hh
    refine ⟨(Array.getElem?_eq_some_iff.1 hh).1, ?_⟩
    split at h
    · cases h
    · rename_i hs; simpa using hs
  · cases h
theorem cells_get {base : Nat} {a : Addr} {n : Nat} {l : List Value} (h : W.cells? base a n = some l) : l.length = n ∧ ∀ (j : Nat) u, l[j]? = some u → W.cell? (a.add j) = some u := by
  unfold World.cells? at h
  split at h
  · have hl : l.length = n := by simpa using mapM_some_length h
    refine ⟨hl, fun j u hu => ?_⟩
    have hj : j < n := by rw [← hl]; exact (List.getElem?_eq_some_iff.1 hu).1
    have := mapM_some_get h j j (by simp [hj])
    rw [this]; exact hu
  · cases h
theorem add_zero (a : Addr) : a.add 0 = a := by simp [Addr.add]
theorem open_i64 (ht : P.underlying t = some (.int .i64)) (h : DataW.trod enc P W 0 (fun _ => true) held fuel t cs = some x) : ∃ n : Int, cs = [.int .i64 n] ∧ -9223372036854775808 ≤ n ∧ n < 9223372036854775808 := by
  obtain ⟨n, h1, _, h2⟩ := DataW.trod_int ht h
  refine ⟨n, h1, ?_⟩
  simp only [Lit.wf, Bool.and_eq_true, decide_eq_true_eq, IntKind.min, IntKind.max, IntKind.signed, IntKind.bits] at h2
  simp at h2
  omega
/-- Each list of a kind. -/
theorem each_ex {α : Type} {f : α → List Value} : ∀ {css : List (List Value)}, (∀ (i : Nat) c, css[i]? = some c → ∃ x : α, c = f x) → ∃ l : List α, css = l.map f
  | [], _ => ⟨[], rfl⟩
  | c :: css, h => by
    obtain ⟨x, hx⟩ := h 0 c rfl
    obtain ⟨l, hl⟩ := each_ex (css := css) fun i c hc => h (i + 1) c (by simpa using hc)
    exact ⟨x :: l, by rw [hx, hl]; rfl⟩
end
end Go.Abs
end

section
/- Lists of statements, and lines of words, that came in as arguments: what they show. -/
open Go.RowKit
namespace Go.Abs
open Go.ChangeShapes
section
variable {H : Type} {enc : TypeId × Value → H} {P : Program} {W : World} {fuel : Nat} {t e : TypeId} {cs : List Value} {x : DataW H × List MemPlace} {held : Bool}
/-- A slice opened. -/
theorem open_slW (ht : P.underlying t = some (.slice e)) (hk : 0 < P.cellsOf e) (h : DataW.trod enc P W 0 (fun _ => true) held fuel t cs = some x) :
    ∃ (v : Value) (a' : Option Addr) (len cap : Nat) (css : List (List Value)) (n : Nat), cs = [v] ∧ VRel (argMap W.heap.size) (norm W.heap.size v) v ∧ norm W.heap.size v = .slice a' len cap ∧ css.length = len ∧ len ≤ cap ∧ cap ≤ maxLen ∧
      (∀ (i : Nat) c, css[i]? = some c → c.length = P.cellsOf e ∧ ∃ y, DataW.trod enc P W 0 (fun _ => true) held n e c = some y ∧ ∀ z, z ∈ y.1.weights P e → z ∈ x.1.weights P t) ∧ n + 1 = fuel ∧ (len = 0 ∨ ∃ z, z ∈ x.1.weights P t ∧ len * P.bytesOf e ≤ z) ∧
      ((a' = none ∧ len = 0) ∨ ∃ b off, a' = some ⟨b, off, none⟩ ∧ b < W.heap.size + 1 ∧ ∀ (i : Nat) c (j : Nat) u, css[i]? = some c → c[j]? = some u → W.cell? ⟨b, off + i * P.cellsOf e + j, none⟩ = some u) := by
  rcases DataW.trod_slice ht h with ⟨rfl, _⟩ | ⟨a, len, cap, elems, rest, n, hf, rfl, hx, _, hlc, hcm, hel, he, hr, _⟩
  · obtain ⟨n, rfl⟩ : ∃ n, fuel = n + 1 := by
      cases fuel with
      | zero => simp [DataW.trod] at h
      | succ n => exact ⟨n, rfl⟩
    exact ⟨_, none, 0, 0, [], n, rfl, .sliceN 0 0, rfl, rfl, Nat.le_refl _, Nat.zero_le _, fun i c hc => by simp at hc, rfl, .inl rfl, .inl ⟨rfl, rfl⟩⟩
  · have hw : x.1.weights P t = ((elems.map (·.1)).length + (rest.map (·.1)).length) * P.bytesOf e :: (DataW.weightsAll P e (elems.map (·.1)) ++ DataW.weightsAll P e (rest.map (·.1))) := by
      rw [hx]; simp only [DataW.weights, ht]
    have hall : ∀ (l : List (DataW H)) (d : DataW H), d ∈ l → ∀ z, z ∈ d.weights P e → z ∈ DataW.weightsAll P e l := by
      intro l
      induction l with
      | nil => intro d hd; simp at hd
      | cons d' l ih =>
        intro d hd z hz
        rw [DataW.weightsAll]
        rcases List.mem_cons.1 hd with rfl | hd
        · exact List.mem_append_left _ hz
        · exact List.mem_append_right _ (ih d hd z hz)
    have hel2 : ∀ y, y ∈ elems → ∀ z, z ∈ y.1.weights P e → z ∈ x.1.weights P t := fun y hy z hz => by
      rw [hw]
      exact List.mem_cons_of_mem _ (List.mem_append_left _ (hall _ _ (List.mem_map_of_mem hy) z hz))
    have hlw : len = 0 ∨ ∃ z, z ∈ x.1.weights P t ∧ len * P.bytesOf e ≤ z := by
      refine .inr ⟨_, by rw [hw]; exact List.mem_cons_self, Nat.mul_le_mul_right _ ?_⟩
      simp; omega
    -- the elements' cells
    have hex : ∀ i, i < len → ∃ c, W.cells? 0 (a.add (i * P.cellsOf e)) (P.cellsOf e) = some c ∧ ∃ y, DataW.trod enc P W 0 (fun _ => true) held n e c = some y ∧ ∀ z, z ∈ y.1.weights P e → z ∈ x.1.weights P t := by
      intro i hi
      have := he i hi
      rw [List.getElem?_eq_getElem (by omega)] at this
      obtain ⟨c, h1, h2⟩ := Option.bind_eq_some_iff.1 this
      exact ⟨c, h1, _, h2, hel2 _ (List.getElem_mem _)⟩
    let css : List (List Value) := (List.range len).map fun i => (W.cells? 0 (a.add (i * P.cellsOf e)) (P.cellsOf e)).getD []
    have hcs : ∀ (i : Nat) c, css[i]? = some c → W.cells? 0 (a.add (i * P.cellsOf e)) (P.cellsOf e) = some c ∧ ∃ y, DataW.trod enc P W 0 (fun _ => true) held n e c = some y ∧ ∀ z, z ∈ y.1.weights P e → z ∈ x.1.weights P t := by
      intro i c hc
      have hi : i < len := by have := (List.getElem?_eq_some_iff.1 hc).1; simpa [css] using this
      obtain ⟨c', h1, h2⟩ := hex i hi
      have : css[i]? = some c' := by simp [css, hi, h1]
      rw [this] at hc; cases hc
      exact ⟨h1, h2⟩
    have hclen : css.length = len := by simp [css]
    have hcell : 0 < len ∨ 0 < cap → a.block < W.heap.size ∧ a.spot = none := by
      intro h0
      by_cases hl : 0 < len
      · obtain ⟨c, h1, _⟩ := hex 0 hl
        obtain ⟨hl1, hg⟩ := cells_get h1
        have := hg 0 c[0] (List.getElem?_eq_getElem (by omega))
        rw [Nat.zero_mul, add_zero, add_zero] at this
        exact cell_block this
      · have hc0 : 0 < cap := by omega
        obtain ⟨hrl, hrj⟩ := hr rfl
        have := hrj 0 (by omega)
        rw [List.getElem?_eq_getElem (by omega)] at this
        obtain ⟨c, h1, _⟩ := Option.bind_eq_some_iff.1 this
        obtain ⟨hl1, hg⟩ := cells_get h1
        have := hg 0 c[0] (List.getElem?_eq_getElem (by omega))
        rw [show len + 0 = 0 from by omega, Nat.zero_mul, add_zero, add_zero] at this
        exact cell_block this
    by_cases h0 : len = 0 ∧ cap = 0
    · obtain ⟨rfl, rfl⟩ := h0
      refine ⟨_, some ⟨W.heap.size, 0, none⟩, 0, 0, css, n, rfl, ?_, rfl, hclen, hlc, hcm, fun i c hc => ⟨(cells_get (hcs i c hc).1).1, (hcs i c hc).2⟩, hf.symm, hlw, .inr ⟨W.heap.size, 0, rfl, Nat.lt_succ_self _, fun i c j u hc => ?_⟩⟩
      · exact VRel.slice (κ := 0) argMap_S (Nat.zero_le _) (.inr ⟨rfl, rfl⟩)
      · have := (List.getElem?_eq_some_iff.1 hc).1; omega
    · obtain ⟨hb, hs⟩ := hcell (by omega)
      obtain ⟨b, off, sp⟩ := a
      simp only at hs hb
      subst hs
      have hn : norm W.heap.size (.slice (some ⟨b, off, none⟩) len cap) = .slice (some ⟨b, off, none⟩) len cap := by
        unfold norm
        split
        · rename_i e1; cases e1; exact absurd ⟨rfl, rfl⟩ h0
        · rfl
      refine ⟨_, some ⟨b, off, none⟩, len, cap, css, n, rfl, ?_, hn, hclen, hlc, hcm, fun i c hc => ⟨(cells_get (hcs i c hc).1).1, (hcs i c hc).2⟩, hf.symm, hlw, .inr ⟨b, off, rfl, by omega, fun i c j u hc hu => ?_⟩⟩
      · rw [hn]
        exact VRel.slice (κ := 0) (argMap_lt hb) (Nat.zero_le _) (.inl rfl)
      · have := (cells_get (hcs i c hc).1).2 j u hu
        rw [Addr.add_lit, Addr.add_lit] at this
        exact this
end
end Go.Abs
namespace Go.Abs.Fo
open Go.Abs Go.ChangeShapes
section
variable {H : Type} {enc : TypeId × Value → H} {P : Program} {W : World} {held : Bool}

/-- What may be seen of the memory at the start. -/
def GoodV (W : World) (vs : List (Option Addr × List Value)) : Prop := ∀ a l, (a, l) ∈ vs → ∃ b off, a = some ⟨b, off, none⟩ ∧ b < W.heap.size + 1 ∧ ∀ j, j < l.length → (mir W).rd b (off + j) = l[j]?
def Vin (vs : List (Option Addr × List Value)) (a : Option Addr) (l : List Value) : Prop := (a = none ∧ l = []) ∨ (a, l) ∈ vs
theorem GoodV.app {vs ws : List (Option Addr × List Value)} (h : GoodV W vs) (k : GoodV W ws) : GoodV W (vs ++ ws) := fun a l hm => by
  rcases List.mem_append.1 hm with x | x
  · exact h a l x
  · exact k a l x
theorem GoodV.cons {vs : List (Option Addr × List Value)} {b off : Nat} {l : List Value} (hb : b < W.heap.size + 1) (hr : ∀ j, j < l.length → (mir W).rd b (off + j) = l[j]?) (k : GoodV W vs) : GoodV W ((some ⟨b, off, none⟩, l) :: vs) := fun a l' hm => by
  rcases List.mem_cons.1 hm with x | x
  · cases x; exact ⟨b, off, rfl, hb, hr⟩
  · exact k a l' x
theorem GoodV.nil : GoodV W [] := fun _ _ h => by simp at h
theorem Vin.mono {vs ws : List (Option Addr × List Value)} {a : Option Addr} {l : List Value} (h : Vin vs a l) (hs : ∀ x, x ∈ vs → x ∈ ws) : Vin ws a l := h.imp id fun x => hs _ x
theorem Vin.vw {vs : List (Option Addr × List Value)} (G : GoodV W vs) {a : Option Addr} {l : List Value} (h : Vin vs a l) : Vw (argStore vs) [] a l := by
  rcases h with x | x
  · exact .inl x
  · refine .inr (Rd.of_ro (c := 0) (by simp) rfl x (SubOf.self ?_))
    obtain ⟨b, off, rfl, _⟩ := G a l x
    intro b' e; cases e; rfl
theorem good_own {vs : List (Option Addr × List Value)} (G : GoodV W vs) : Own (mir W) (fun _ => 0) (argStore vs) := arg_own fun a l hm => .inr (G a l hm)
/-- Cells at places, as the deterministic heap shows them. -/
theorem rd_of {b off k : Nat} {css : List (List Value)} (hk : ∀ c, c ∈ css → c.length = k) (hn : ∀ c, c ∈ css → ∀ u, u ∈ c → VRel (argMap W.heap.size) (norm W.heap.size u) u)
    (hc : ∀ (i : Nat) c (j : Nat) u, css[i]? = some c → c[j]? = some u → W.cell? ⟨b, off + i * k + j, none⟩ = some u) : ∀ j, j < (css.flatten.map (norm W.heap.size)).length → (mir W).rd b (off + j) = (css.flatten.map (norm W.heap.size))[j]? := by
  induction css generalizing off with
  | nil => intro j hj; simp at hj
  | cons c css ih =>
    intro j hj
    have hl := hk c (by simp)
    rw [List.flatten_cons, List.map_append] at hj ⊢
    by_cases hjl : j < c.length
    · rw [List.getElem?_append_left (by simpa using hjl), List.getElem?_map, List.getElem?_eq_getElem hjl]
      have := hc 0 c j c[j] rfl (List.getElem?_eq_getElem hjl)
      rw [Nat.zero_mul, Nat.add_zero] at this
      exact mir_rd this (hn c (by simp) _ (List.getElem_mem hjl))
    · rw [List.getElem?_append_right (by simp; omega), List.length_map]
      rw [List.length_append, List.length_map, List.length_map] at hj
      have := ih (off := off + k) (fun c' h' => hk c' (by simp [h'])) (fun c' h' => hn c' (by simp [h'])) (fun i c' j' u h1 h2 => by
        have := hc (i + 1) c' j' u (by simpa using h1) h2
        rw [show off + k + i * k + j' = off + (i + 1) * k + j' from by rw [Nat.add_mul]; omega]; exact this) (j - c.length) (by simp only [List.length_map]; omega)
      rw [← this, show off + j = off + k + (j - c.length) from by omega]
/-- No part of a datum is greater than the machine. -/
abbrev Light (P : Program) (t : TypeId) (d : DataW H) : Prop := ∀ z, z ∈ d.weights P t → z ≤ 140737488351232
/-- A slice of strings opened. -/
theorem open_words {tA tS : TypeId} (hA : P.underlying tA = some (.slice tS)) (hS : P.underlying tS = some .string) (cS : P.cellsOf tS = 1) (bS : 1 ≤ P.bytesOf tS) {fuel : Nat} {cs : List Value} {x : DataW H × List MemPlace} (h : DataW.trod enc P W 0 (fun _ => true) held fuel tA cs = some x) (hz : Light P tA x.1) :
    ∃ v a cap l vs, cs = [v] ∧ VRel (argMap W.heap.size) (norm W.heap.size v) v ∧ norm W.heap.size v = .slice a (l : List Str).length cap ∧ l.length ≤ cap ∧ cap ≤ maxLen ∧ l.length ≤ 140737488351232 ∧ (∀ s, s ∈ l → s.size ≤ 140737488351232) ∧ GoodV W vs ∧ Vin vs a (strs l) := by
  obtain ⟨v, a', len, cap, css, n, e, hv, hn, hl, hlc, hcm, hc, _, hlw, hw⟩ := open_slW hA (by rw [cS]; decide) h
  obtain ⟨l0, hl0⟩ := each_ex (f := fun s : {s : Str // s.size ≤ 140737488351232} => [Value.string s.1]) (css := css) fun i c hi => by
    obtain ⟨_, y, hy, hyz⟩ := hc i c hi
    obtain ⟨s, e1, e2, _⟩ := DataW.trod_string hS hy
    refine ⟨⟨s, hz _ (hyz _ ?_)⟩, e1⟩
    rw [e2]
    simp only [DataW.weights]
    exact List.mem_singleton.2 rfl
  have hlen : (l0.map (·.1)).length = len := by rw [← hl, hl0]; simp
  have hle : len ≤ 140737488351232 := by
    rcases hlw with h0 | ⟨z, h1, h2⟩
    · omega
    · have := hz z h1
      have : len * 1 ≤ len * P.bytesOf tS := Nat.mul_le_mul_left _ bS
      omega
  have hs : ∀ s, s ∈ l0.map (·.1) → s.size ≤ 140737488351232 := by
    intro s hs
    obtain ⟨y, _, rfl⟩ := List.mem_map.1 hs
    exact y.2
  have hfl : css.flatten.map (norm W.heap.size) = strs (l0.map (·.1)) := by
    rw [hl0]
    clear hl0 hlen hs
    induction l0 with
    | nil => rfl
    | cons s l ih =>
      rw [List.map_cons, List.flatten_cons, List.map_append, ih]
      rfl
  rcases hw with ⟨ha, h0⟩ | ⟨b, off, ha, hb, hr⟩
  · refine ⟨v, a', cap, l0.map (·.1), [], e, hv, by rw [hn, hlen], by omega, hcm, by omega, hs, GoodV.nil, .inl ⟨ha, ?_⟩⟩
    have : l0.map (·.1) = [] := List.eq_nil_of_length_eq_zero (by omega)
    rw [this]; rfl
  · subst ha
    refine ⟨v, _, cap, l0.map (·.1), [(some ⟨b, off, none⟩, strs (l0.map (·.1)))], e, hv, by rw [hn, hlen], by omega, hcm, by omega, hs, GoodV.nil.cons hb ?_, .inr (by simp)⟩
    rw [← hfl]
    rw [cS] at hr hc
    refine rd_of (k := 1) (fun c hcm => ?_) (fun c hcm u hu => ?_) hr
    · obtain ⟨i, hi⟩ := List.getElem?_of_mem hcm
      exact (hc i c hi).1
    · rw [hl0] at hcm
      obtain ⟨s, _, rfl⟩ := List.mem_map.1 hcm
      simp at hu; subst hu
      exact .string _
structure StT (P : Program) (tL tE tI tA tS : TypeId) (fs : Array Field) : Prop where
  list : P.underlying tL = some (.slice tE)
  elem : P.underlying tE = some (.struct fs)
  int : P.underlying tI = some (.int .i64)
  words : P.underlying tA = some (.slice tS)
  str : P.underlying tS = some .string
  cE : P.cellsOf tE = 4
  cI : P.cellsOf tI = 1
  cA : P.cellsOf tA = 1
  cL : P.cellsOf tL = 1
  cS : P.cellsOf tS = 1
  bS : 1 ≤ P.bytesOf tS
  bE : 1 ≤ P.bytesOf tE
  f0 : ∃ f, fs[0]? = some f ∧ f.type = tI ∧ f.offset = 0
  f1 : ∃ f, fs[1]? = some f ∧ f.type = tA ∧ f.offset = 1
  f2 : ∃ f, fs[2]? = some f ∧ f.type = tI ∧ f.offset = 2
  f3 : ∃ f, fs[3]? = some f ∧ f.type = tL ∧ f.offset = 3
/-- A slice of statements, as it is opened. -/
def OpenL (W : World) (v : Value) : Prop :=
  ∃ a cap f cells vs, VRel (argMap W.heap.size) (norm W.heap.size v) v ∧ norm W.heap.size v = .slice a (f : F).len cap ∧ f.len ≤ cap ∧ cap ≤ maxLen ∧ f.len ≤ 140737488351232 ∧ Fits f ∧ GoodV W vs ∧ Vin vs a cells ∧ Lies (Vin vs) f cells
theorem light_at {ts : List TypeId} {ds : List (DataW H)} (h : (DataW.weightsEach P ts ds).all (· ≤ reachBytes) = true) {i : Nat} {t : TypeId} {d : DataW H} (h1 : ts[i]? = some t) (h2 : ds[i]? = some d) : Light P t d := by
  intro z hz
  have each : ∀ (ts : List TypeId) (ds : List (DataW H)) (i : Nat), ts[i]? = some t → ds[i]? = some d → z ∈ DataW.weightsEach P ts ds := by
    intro ts
    induction ts with
    | nil => intro ds i h1; simp at h1
    | cons t' ts ih =>
      intro ds i h1 h2
      cases ds with
      | nil => simp at h2
      | cons d' ds =>
        rw [DataW.weightsEach]
        cases i with
        | zero => simp at h1 h2; subst h1 h2; exact List.mem_append_left _ hz
        | succ i => exact List.mem_append_right _ (ih ds i (by simpa using h1) (by simpa using h2))
  have := List.all_eq_true.1 h z (each ts ds i h1 h2)
  have := of_decide_eq_true this
  exact this
variable {tL tE tI tA tS : TypeId} {fs : Array Field}
theorem open_structF {t : TypeId} {fuel : Nat} {cs : List Value} {x : DataW H × List MemPlace} (ht : P.underlying t = some (.struct fs)) (h : DataW.trod enc P W 0 (fun _ => true) held fuel t cs = some x) :
    ∃ n, n + 1 = fuel ∧ ∀ (i : Nat) (f : Field), fs[i]? = some f → ∃ y, DataW.trod enc P W 0 (fun _ => true) held n f.type ((cs.drop f.offset).take (P.cellsOf f.type)) = some y ∧ ∀ z, z ∈ y.1.weights P f.type → z ∈ x.1.weights P t := by
  obtain ⟨xs, n, hn, hxx, hl, hx, hf⟩ := DataW.trod_struct ht h
  refine ⟨n, by omega, fun i f hi => ?_⟩
  have hlt : i < xs.length := by rw [hx]; exact (Array.getElem?_eq_some_iff.1 hi).1
  rw [hf i f hi, List.getElem?_eq_getElem hlt]
  refine ⟨_, rfl, fun z hz => ?_⟩
  have each : ∀ (ts : List TypeId) (ds : List (DataW H)) (i : Nat) (t : TypeId) (d : DataW H), ts[i]? = some t → ds[i]? = some d → z ∈ d.weights P t → z ∈ DataW.weightsEach P ts ds := by
    intro ts
    induction ts with
    | nil => intro ds i t d h1; simp at h1
    | cons t' ts ih =>
      intro ds i t d h1 h2 h3
      cases ds with
      | nil => simp at h2
      | cons d' ds =>
        rw [DataW.weightsEach]
        cases i with
        | zero => simp at h1 h2; subst h1 h2; exact List.mem_append_left _ h3
        | succ i => exact List.mem_append_right _ (ih ds i t d (by simpa using h1) (by simpa using h2) h3)
  rw [hxx]
  simp only [DataW.weights, ht]
  refine each _ _ i f.type xs[i].1 ?_ ?_ hz
  · rw [List.getElem?_map, Array.getElem?_toList, hi]; rfl
  · rw [List.getElem?_map, List.getElem?_eq_getElem hlt]; rfl
theorem open_each (S : StT P tL tE tI tA tS fs) {N : Nat} (ih : ∀ fuel', fuel' < N → ∀ {cs : List Value} {x : DataW H × List MemPlace}, DataW.trod enc P W 0 (fun _ => true) held fuel' tL cs = some x → Light P tL x.1 → ∃ v, cs = [v] ∧ OpenL W v) :
    ∀ (css : List (List Value)), (∀ c, c ∈ css → c.length = 4 ∧ ∃ n y, n < N ∧ DataW.trod enc P W 0 (fun _ => true) held n tE c = some y ∧ Light P tE y.1) →
      ∃ f vs, (f : F).len = css.length ∧ Fits f ∧ GoodV W vs ∧ Lies (Vin vs) f (css.flatten.map (norm W.heap.size)) ∧ ∀ c, c ∈ css → ∀ u, u ∈ c → VRel (argMap W.heap.size) (norm W.heap.size u) u
  | [], _ => ⟨.nil, [], rfl, trivial, GoodV.nil, rfl, fun c hc => by simp at hc⟩
  | c :: css, hc => by
    obtain ⟨hl, n, y, hN, hy, hyz⟩ := hc c (by simp)
    obtain ⟨m, hm, hf⟩ := open_structF S.elem hy
    obtain ⟨f0, g0, t0, o0⟩ := S.f0
    obtain ⟨f1, g1, t1, o1⟩ := S.f1
    obtain ⟨f2, g2, t2, o2⟩ := S.f2
    obtain ⟨f3, g3, t3, o3⟩ := S.f3
    obtain ⟨y0, h0, z0⟩ := hf 0 _ g0
    obtain ⟨y1, h1, z1⟩ := hf 1 _ g1
    obtain ⟨y2, h2, z2⟩ := hf 2 _ g2
    obtain ⟨y3, h3, z3⟩ := hf 3 _ g3
    rw [t0, o0, S.cI] at h0
    rw [t1, o1, S.cA] at h1
    rw [t1] at z1
    rw [t2, o2, S.cI] at h2
    rw [t3, o3, S.cL] at h3
    rw [t3] at z3
    match c, hl with
    | [x0, x1, x2, x3], _ =>
      obtain ⟨op, e0, _⟩ := open_i64 S.int h0
      obtain ⟨v1, aa, ac, args, ws, e1, r1, n1, k1, k2, k2', k3, k4, k5⟩ := open_words S.words S.str S.cS S.bS h1 (fun z hz => hyz z (z1 z hz))
      obtain ⟨kk, e2, _⟩ := open_i64 S.int h2
      obtain ⟨v3, e3, ba, bc, body, bcells, us, r3, n3, l1, l2, l2', l3, l4, l5, l6⟩ := ih m (by omega) h3 (fun z hz => hyz z (z3 z hz))
      have e0 : [x0] = [_] := e0
      have e1 : [x1] = [_] := e1
      have e2 : [x2] = [_] := e2
      have e3 : [x3] = [_] := e3
      cases e0; cases e1; cases e2; cases e3
      obtain ⟨f, vs, q1, q2, q3, q4, q5⟩ := open_each S ih css fun c' h' => hc c' (by simp [h'])
      refine ⟨.cons op args kk body f, ws ++ us ++ vs, by simp [F.len, q1], ⟨by omega, fun s hs => by have := k3 s hs; omega, by omega, l3, q2⟩, (k4.app l4).app q3, ?_, ?_⟩
      · refine ⟨aa, ac, ba, bc, bcells, css.flatten.map (norm W.heap.size), ?_, k5.mono fun x hx => by simp [hx], l5.mono fun x hx => by simp [hx], l6.mono fun _ _ z => z.mono fun x hx => by simp [hx], q4.mono fun _ _ z => z.mono fun x hx => by simp [hx]⟩
        rw [List.flatten_cons, List.map_append]
        simp only [List.map_cons, List.map_nil, n1, n3]
        rfl
      · intro c' hc' u hu
        rcases List.mem_cons.1 hc' with rfl | hc'
        · simp only [List.mem_cons, List.not_mem_nil, or_false] at hu
          rcases hu with rfl | rfl | rfl | rfl
          · exact .int _ _
          · exact r1
          · exact .int _ _
          · exact r3
        · exact q5 c' hc' u hu
/-- A slice of statements opened. -/
theorem open_stmts (S : StT P tL tE tI tA tS fs) : ∀ (fuel : Nat) {cs : List Value} {x : DataW H × List MemPlace}, DataW.trod enc P W 0 (fun _ => true) held fuel tL cs = some x → Light P tL x.1 → ∃ v, cs = [v] ∧ OpenL W v := by
  intro fuel
  induction fuel using Nat.strongRecOn with
  | ind fuel ih =>
    intro cs x h hz
    obtain ⟨v, a', len, cap, css, n, e, hv, hn, hl, hlc, hcm, hc, hnf, hlw, hw⟩ := open_slW S.list (by rw [S.cE]; decide) h
    have hle : len ≤ 140737488351232 := by
      rcases hlw with h0 | ⟨z, h1, h2⟩
      · omega
      · have := hz z h1
        have : len * 1 ≤ len * P.bytesOf tE := Nat.mul_le_mul_left _ S.bE
        omega
    rw [S.cE] at hc hw
    obtain ⟨f, vs, q1, q2, q3, q4, q5⟩ := open_each S (N := fuel) (fun fuel' hf {cs} {x} h' hz' => ih fuel' hf h' hz') css fun c hcm => by
      obtain ⟨i, hi⟩ := List.getElem?_of_mem hcm
      obtain ⟨h1, y, h2, h3⟩ := hc i c hi
      exact ⟨h1, n, y, by omega, h2, fun z hz' => hz z (h3 z hz')⟩
    refine ⟨v, e, ?_⟩
    rcases hw with ⟨ha, h0⟩ | ⟨b, off, ha, hb, hr⟩
    · have hcss : css = [] := List.eq_nil_of_length_eq_zero (by omega)
      subst hcss
      have hf : f = .nil := by
        cases f with
        | nil => rfl
        | cons _ _ _ _ _ => simp [F.len] at q1
      subst hf
      refine ⟨a', cap, .nil, [], [], hv, ?_, Nat.zero_le _, hcm, Nat.zero_le _, trivial, GoodV.nil, .inl ⟨ha, rfl⟩, rfl⟩
      rw [hn, h0]; rfl
    · refine ⟨a', cap, f, css.flatten.map (norm W.heap.size), (a', css.flatten.map (norm W.heap.size)) :: vs, hv, by rw [hn, q1, hl], by omega, hcm, by omega, q2, ?_, .inr (by simp), q4.mono fun _ _ z => z.mono fun x hx => by simp [hx]⟩
      subst ha
      refine q3.cons hb (rd_of (k := 4) (fun c hcm => ?_) q5 hr)
      obtain ⟨i, hi⟩ := List.getElem?_of_mem hcm
      exact (hc i c hi).1
end
end Go.Abs.Fo
end

section
/- A row with arguments, and with listed package variables, out of what the function comes to. -/
open Go.RowKit
namespace Go.Abs
open Go.ChangeShapes
section
variable {H : Type} {enc : TypeId × Value → H} {P : Program} {f : FuncId} {fn : Func} {s : ChangeSpec} {apart handsOn : Bool} {t : TypeId}

/-- What the model's call does, for a law whose arguments read behind the call as they read before. -/
theorem calls_args (hlaid : laidOutB P = true) (hparams : ∀ t', t' ∈ fn.params.toList → P.readableRec t' = true ∧ t' < P.types.size)
    (hr : fn.resultTypes = #[t]) (ht : P.underlying t = some .bool) (hv : s.vars = [])
    (hs : ∀ (K : Type) (ds : List (DataW K)), ds.length = fn.params.size → (s.fn K ds).results = [.lit (.bool true)] ∧ (s.fn K ds).args = ds ∧ (s.fn K ds).vars = [])
    (hlow : Nat.ble (P.globals.size + 1) (begin P (fun _ _ => 0) default).world.heap.size = true)
    {W : World} {args : Array Value} {ds gs : List (DataW H)} {before : List MemPlace} (hW : DataW.Whole enc P fn.params.toList s.vars apart W args.toList ds gs before) (hsh : W.ShapedOpen P)
    (run : ∀ (p : List MemPlace), DataW.TrodAll enc P W 0 (fun _ => true) true fn.params.toList args.toList ds p →
      LRel (argMap W.heap.size) (args.toList.map (norm W.heap.size)) args.toList ∧ EvQ P f (args.toList.map (norm W.heap.size)) (mir W) fun v _ => v = .bool true) :
    Calls P f args W fun e W' => ∃ v, e = .returned v ∧ s.post enc P fn apart true handsOn false W args v W' := by
  have hsz := shaped_size hlow hsh
  have hW0 := hW
  obtain ⟨p, q, hA, _⟩ := hW
  obtain ⟨hrel, v, h', ⟨n, hev⟩, hq⟩ := run _ hA
  subst hq
  rcases calls_ok (B0 := Zn.lt W.heap.size) (w0 := W) n f _ _ _ _ hev with ⟨_, hcalls⟩ | ⟨_, _, e2, _⟩
  rotate_left
  · cases e2
  have hglob : Glob P (argMap W.heap.size) := fun g hg => argMap_lt (Nat.lt_of_lt_of_le hg hsz)
  have hargs : (⟨args.toList⟩ : Array Value) = args := by simp
  have := hcalls _ _ _ hrel (mir_rel _) hglob
  rw [hargs] at this
  refine this.mono fun e W' he => ?_
  obtain ⟨ψ, v', _, rfl, hv', HR⟩ := he
  rw [hv'.bool_inv]
  exact ⟨_, rfl, post_args hlaid hparams hr ht hv hs hW0 HR.below.below⟩
end
/-- The cells of a table as a row lists it. -/
def tabCells : DataW Unit → Array Value
  | .agg l => (l.map fun
    | .lit (.int k z) => Value.int k z
    | _ => .bool false).toArray
  | _ => #[]
def putTab (h : Array Obj) : List (Nat × DataW Unit) → Array Obj
  | [] => h
  | (g, d) :: l => (putTab h l).modify g fun
    | .cells _ t frozen => .cells (tabCells d) t frozen
    | o => o
end Go.Abs
end
