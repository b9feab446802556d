/- The relation between the deterministic semantics' heap and the model's world. -/
import Derived.Test.YtgdkekdedgkglaaBkAbs
import Derived.Laws.Rows
import Derived.Laws.Append
import Derived.Laws.Small
import Derived.WalkSmall
namespace Go.Abs

namespace T
variable {α : Type}
theorem get?_nil (n : Nat) : (nil : T α).get? n = none := rfl

theorem get?_setF (f : Nat) : ∀ (t : T α) (n : Nat) (a : α) (m : Nat), n < f → (setF f t n a).get? m = if m = n then some a else t.get? m := by
  induction f with
  | zero => intro t n a m h; omega
  | succ f ih =>
    intro t n a m hn
    have e0 : ∀ k, Nat.beq k 0 = decide (k = 0) := fun k => by
      cases k <;> simp [Nat.beq]
    have e1 : ∀ k, Nat.beq k 1 = decide (k = 1) := fun k => by
      rw [Bool.eq_iff_iff]; simp [Nat.beq_eq]
    have node : ∀ (l : T α) (v : Option α) (r : T α), (setF (f + 1) (node l v r) n a).get? m = if m = n then some a else (T.node l v r).get? m := by
      intro l v r
      simp only [setF, e0, e1]
      by_cases n0 : n = 0
      · subst n0
        simp only [decide_true]
        by_cases m0 : m = 0
        · subst m0; simp [get?, e0]
        · simp [get?, e0, m0]
      · simp only [n0, decide_false]
        by_cases n1 : n % 2 = 1
        · simp only [n1, decide_true]
          by_cases m0 : m = 0
          · subst m0; simp [get?, e0, Ne.symm n0]
          · by_cases m1 : m % 2 = 1
            · simp only [get?, e0, e1, m0, m1, decide_true, decide_false]
              rw [ih l (n / 2) a (m / 2) (by omega)]
              have : (m / 2 = n / 2) ↔ m = n := by omega
              simp [this]
            · have hne : m ≠ n := fun e => m1 (e ▸ n1)
              simp [get?, e0, e1, m0, m1, hne]
        · simp only [n1, decide_false]
          by_cases m0 : m = 0
          · subst m0; simp [get?, e0, Ne.symm n0]
          · by_cases m1 : m % 2 = 1
            · have hne : m ≠ n := fun e => n1 (e ▸ m1)
              simp [get?, e0, e1, m0, m1, hne]
            · simp only [get?, e0, e1, m0, m1, decide_false]
              rw [ih r (n / 2 - 1) a (m / 2 - 1) (by omega)]
              have : (m / 2 - 1 = n / 2 - 1) ↔ m = n := by omega
              simp [this]
    cases t with
    | node l v r => exact node l v r
    | nil =>
      have hs : setF (f + 1) (nil : T α) n a = setF (f + 1) (.node nil none nil) n a := by simp only [setF]
      rw [hs, node nil none nil]
      have : (T.node nil none nil : T α).get? m = (nil : T α).get? m := by
        simp only [get?]
        cases Nat.beq m 0 <;> cases Nat.beq (m % 2) 1 <;> rfl
      rw [this]

theorem get?_set (t : T α) (n : Nat) (a : α) (m : Nat) : (t.set n a).get? m = if m = n then some a else t.get? m := get?_setF _ _ _ _ _ (by omega)
theorem get?_set_same (t : T α) (n : Nat) (a : α) : (t.set n a).get? n = some a := by simp [get?_set]
theorem get?_set_ne (t : T α) {n m : Nat} (a : α) (h : m ≠ n) : (t.set n a).get? m = t.get? m := by simp [get?_set, h]

theorem get?_setL (l : List α) : ∀ (t : T α) (n m : Nat), (t.setL n l).get? m = if n ≤ m ∧ m < n + l.length then l[m - n]? else t.get? m := by
  induction l with
  | nil => intro t n m; simp only [setL, List.length_nil]; rw [if_neg (by omega)]
  | cons a l ih =>
    intro t n m
    simp only [setL, ih, get?_set, List.length_cons]
    by_cases h : n + 1 ≤ m ∧ m < n + 1 + l.length
    · rw [if_pos h, if_pos (by omega), show m - n = (m - (n + 1)) + 1 from by omega, List.getElem?_cons_succ]
    · rw [if_neg h]
      by_cases hm : m = n
      · subst hm; simp
      · rw [if_neg hm, if_neg (by omega)]

theorem get?_ofList (l : List α) (m : Nat) : (ofList l).get? m = l[m]? := by
  unfold ofList
  rw [get?_setL]
  by_cases h : m < l.length
  · rw [if_pos (by omega)]; simp
  · rw [if_neg (by omega)]; simp [get?_nil, List.getElem?_eq_none (Nat.le_of_not_lt h)]
end T

/-- Two lists, place by place. -/
def L2 {α β : Type} (R : α → β → Prop) (l : List α) (l' : List β) : Prop :=
  l.length = l'.length ∧ ∀ (i : Nat) v v', l[i]? = some v → l'[i]? = some v' → R v v'

namespace L2
variable {α β : Type} {R : α → β → Prop}
theorem nil : L2 R [] [] := ⟨rfl, fun i v v' h => by simp at h⟩
theorem cons {a : α} {b : β} {l : List α} {l' : List β} (h : R a b) (t : L2 R l l') : L2 R (a :: l) (b :: l') :=
  ⟨by simp [t.1], fun i v v' hv hv' => by
    cases i with
    | zero => simp at hv hv'; exact hv ▸ hv' ▸ h
    | succ i => simp at hv hv'; exact t.2 i v v' hv hv'⟩
theorem head {a : α} {b : β} {l : List α} {l' : List β} (h : L2 R (a :: l) (b :: l')) : R a b := h.2 0 a b rfl rfl
theorem tail {a : α} {b : β} {l : List α} {l' : List β} (h : L2 R (a :: l) (b :: l')) : L2 R l l' :=
  ⟨by simpa using h.1, fun i v v' hv hv' => h.2 (i + 1) v v' (by simpa using hv) (by simpa using hv')⟩
theorem nil_left {l' : List β} (h : L2 R [] l') : l' = [] := List.eq_nil_of_length_eq_zero h.1.symm
theorem cons_left {a : α} {l : List α} {l' : List β} (h : L2 R (a :: l) l') : ∃ b t, l' = b :: t ∧ R a b ∧ L2 R l t := by
  cases l' with
  | nil => have := h.1; simp at this
  | cons b t => exact ⟨b, t, rfl, h.head, h.tail⟩
theorem mono {S : α → β → Prop} {l : List α} {l' : List β} (hs : ∀ a b, R a b → S a b) (h : L2 R l l') : L2 S l l' := ⟨h.1, fun i v v' a b => hs _ _ (h.2 i v v' a b)⟩
theorem append {l m : List α} {l' m' : List β} (h : L2 R l l') (k : L2 R m m') : L2 R (l ++ m) (l' ++ m') := by
  refine ⟨by simp [h.1, k.1], fun i v v' hv hv' => ?_⟩
  rw [List.getElem?_append] at hv hv'
  rw [← h.1] at hv'
  split at hv
  · rename_i hi; rw [if_pos hi] at hv'; exact h.2 i v v' hv hv'
  · rename_i hi; rw [if_neg hi] at hv'; exact k.2 _ v v' hv hv'
theorem get {l : List α} {l' : List β} (h : L2 R l l') {i : Nat} {v : α} (hv : l[i]? = some v) : ∃ v', l'[i]? = some v' ∧ R v v' := by
  have hi : i < l.length := (List.getElem?_eq_some_iff.1 hv).1
  have hi' : i < l'.length := h.1 ▸ hi
  exact ⟨l'[i], List.getElem?_eq_getElem hi', h.2 i v _ hv (List.getElem?_eq_getElem hi')⟩
theorem get_none {l : List α} {l' : List β} (h : L2 R l l') {i : Nat} (hv : l[i]? = none) : l'[i]? = none := by
  rw [List.getElem?_eq_none_iff] at *; have := h.1; omega
theorem drop {l : List α} {l' : List β} (h : L2 R l l') (n : Nat) : L2 R (l.drop n) (l'.drop n) :=
  ⟨by simp [h.1], fun i v v' hv hv' => h.2 (n + i) v v' (by simpa using hv) (by simpa using hv')⟩
theorem take {l : List α} {l' : List β} (h : L2 R l l') (n : Nat) : L2 R (l.take n) (l'.take n) := by
  refine ⟨by simp [h.1], fun i v v' hv hv' => ?_⟩
  rw [List.getElem?_take] at hv hv'
  split at hv
  · rename_i hi; rw [if_pos hi] at hv'; exact h.2 i v v' hv hv'
  · cases hv
theorem set {l : List α} {l' : List β} (h : L2 R l l') (n : Nat) {a : α} {b : β} (hab : R a b) : L2 R (l.set n a) (l'.set n b) := by
  refine ⟨by simp [h.1], fun i v v' hv hv' => ?_⟩
  rw [List.getElem?_set] at hv hv'
  split at hv
  · rename_i hi
    rw [if_pos hi] at hv'
    split at hv
    · rename_i hl
      rw [if_pos (h.1 ▸ hl)] at hv'
      simp at hv hv'; exact hv ▸ hv' ▸ hab
    · cases hv
  · rename_i hi; rw [if_neg hi] at hv'; exact h.2 i v v' hv hv'
theorem map {γ δ : Type} {S : γ → δ → Prop} {l : List γ} {l' : List δ} {f : γ → α} {g : δ → β} (hs : ∀ a b, S a b → R (f a) (g b)) (h : L2 S l l') : L2 R (l.map f) (l'.map g) := by
  refine ⟨by simp [h.1], fun i v v' hv hv' => ?_⟩
  rw [List.getElem?_map] at hv hv'
  cases ha : l[i]? with
  | none => simp [ha] at hv
  | some a =>
    cases hb : l'[i]? with
    | none => simp [hb] at hv'
    | some b =>
      simp [ha] at hv; simp [hb] at hv'
      exact hv ▸ hv' ▸ hs _ _ (h.2 i a b ha hb)
theorem self_map {γ : Type} {l : List γ} {f : γ → α} {g : γ → β} (hs : ∀ a, a ∈ l → R (f a) (g a)) : L2 R (l.map f) (l.map g) := by
  refine ⟨by simp, fun i v v' hv hv' => ?_⟩
  rw [List.getElem?_map] at hv hv'
  cases ha : l[i]? with
  | none => simp [ha] at hv
  | some a =>
    simp [ha] at hv hv'
    exact hv ▸ hv' ▸ hs _ (List.mem_of_getElem? ha)
theorem of_get {l : List α} {l' : List β} (hl : l.length = l'.length) (h : ∀ (i : Nat) v, l[i]? = some v → ∃ v', l'[i]? = some v' ∧ R v v') : L2 R l l' :=
  ⟨hl, fun i v v' hv hv' => by
    obtain ⟨u, hu, hr⟩ := h i v hv
    rw [hv'] at hu; simp at hu; exact hu ▸ hr⟩
end L2

/-- Where a block of the deterministic heap lies: the block, how far its places are shifted, how many elements more its array holds. -/
abbrev Map := Nat → Option (Nat × Nat × Nat)

def Map.le (φ ψ : Map) : Prop := ∀ i x, φ i = some x → ψ i = some x
theorem Map.le_refl (φ : Map) : φ.le φ := fun _ _ h => h
theorem Map.le_trans {a b c : Map} (h : a.le b) (k : b.le c) : a.le c := fun i x hx => k i x (h i x hx)
def Map.add (φ : Map) (i : Nat) (x : Nat × Nat × Nat) : Map := fun j => if j = i then some x else φ j
theorem Map.le_add {φ : Map} {i : Nat} {x : Nat × Nat × Nat} (h : φ i = none) : φ.le (φ.add i x) := fun j y hy => by
  unfold Map.add
  split
  · rename_i e; subst e; simp [h] at hy
  · exact hy
theorem Map.add_same (φ : Map) (i : Nat) (x : Nat × Nat × Nat) : φ.add i x i = some x := by simp [Map.add]
theorem Map.add_ne (φ : Map) {i j : Nat} (x : Nat × Nat × Nat) (h : j ≠ i) : φ.add i x j = φ j := by simp [Map.add, h]

inductive VRel (φ : Map) : Value → Value → Prop where
  | bool (b : Bool) : VRel φ (.bool b) (.bool b)
  | int (k : IntKind) (n : Int) : VRel φ (.int k n) (.int k n)
  | string (s : ByteArray) : VRel φ (.string s) (.string s)
  | ptrN : VRel φ (.pointer none) (.pointer none)
  | ptr {i off b σ κ : Nat} (h : φ i = some (b, σ, κ)) (hs : σ ≤ off) : VRel φ (.pointer (some ⟨i, off, none⟩)) (.pointer (some ⟨b, off - σ, none⟩))
  | sliceN (n c : Nat) : VRel φ (.slice none n c) (.slice none n c)
  | slice {i off b σ κ off' len cap : Nat} (h : φ i = some (b, σ, κ)) (hs : σ ≤ off) (ho : off' = off - σ ∨ (len = 0 ∧ cap + κ = 0)) :
      VRel φ (.slice (some ⟨i, off, none⟩) len cap) (.slice (some ⟨b, off', none⟩) len (cap + κ))
  | mapN : VRel φ (.map none) (.map none)
  | map {i b σ κ : Nat} (h : φ i = some (b, σ, κ)) : VRel φ (.map (some i)) (.map (some b))
  | func (fn : Fn) {f f' c c' : List Value} (hf : f.length = f'.length) (hfs : ∀ (i : Nat) v v', f[i]? = some v → f'[i]? = some v' → VRel φ v v')
      (hc : c.length = c'.length) (hcs : ∀ (i : Nat) v v', c[i]? = some v → c'[i]? = some v' → VRel φ v v') : VRel φ (.func fn ⟨f⟩ ⟨c⟩) (.func fn ⟨f'⟩ ⟨c'⟩)
  | nilFunc : VRel φ .nilFunc .nilFunc
  | iface (t : TypeId) {v v' : Value} (h : VRel φ v v') : VRel φ (.iface t v) (.iface t v')
  | nilIface : VRel φ .nilIface .nilIface
  | agg {l l' : List Value} (hl : l.length = l'.length) (h : ∀ (i : Nat) v v', l[i]? = some v → l'[i]? = some v' → VRel φ v v') : VRel φ (.agg ⟨l⟩) (.agg ⟨l'⟩)
  | tuple {l l' : List Value} (hl : l.length = l'.length) (h : ∀ (i : Nat) v v', l[i]? = some v → l'[i]? = some v' → VRel φ v v') : VRel φ (.tuple ⟨l⟩) (.tuple ⟨l'⟩)

theorem VRel.mono {φ ψ : Map} (hm : φ.le ψ) {v v' : Value} (h : VRel φ v v') : VRel ψ v v' := by
  induction h with
  | bool b => exact .bool b
  | int k n => exact .int k n
  | string s => exact .string s
  | ptrN => exact .ptrN
  | ptr h hs => exact .ptr (hm _ _ h) hs
  | sliceN n c => exact .sliceN n c
  | slice h hs ho => exact .slice (hm _ _ h) hs ho
  | mapN => exact .mapN
  | map h => exact .map (hm _ _ h)
  | func fn hf _ hc _ ih1 ih2 => exact .func fn hf ih1 hc ih2
  | nilFunc => exact .nilFunc
  | iface t _ ih => exact .iface t ih
  | nilIface => exact .nilIface
  | agg hl _ ih => exact .agg hl ih
  | tuple hl _ ih => exact .tuple hl ih

abbrev LRel (φ : Map) (l l' : List Value) : Prop := L2 (VRel φ) l l'
theorem LRel.mono {φ ψ : Map} (hm : φ.le ψ) {l l' : List Value} (h : LRel φ l l') : LRel ψ l l' := L2.mono (fun _ _ => VRel.mono hm) h
theorem VRel.agg' {φ : Map} {l l' : List Value} (h : LRel φ l l') : VRel φ (.agg ⟨l⟩) (.agg ⟨l'⟩) := .agg h.1 h.2
theorem VRel.tuple' {φ : Map} {l l' : List Value} (h : LRel φ l l') : VRel φ (.tuple ⟨l⟩) (.tuple ⟨l'⟩) := .tuple h.1 h.2
theorem VRel.func' {φ : Map} (fn : Fn) {f f' c c' : List Value} (h : LRel φ f f') (k : LRel φ c c') : VRel φ (.func fn ⟨f⟩ ⟨c⟩) (.func fn ⟨f'⟩ ⟨c'⟩) := .func fn h.1 h.2 k.1 k.2
theorem VRel.undef {φ : Map} : VRel φ undef undef := VRel.tuple' L2.nil

theorem VRel.cells {φ : Map} {v v' : Value} (h : VRel φ v v') : LRel φ v.cells.toList v'.cells.toList := by
  cases h with
  | agg hl h => exact ⟨hl, h⟩
  | bool b => exact L2.cons (.bool b) L2.nil
  | int k n => exact L2.cons (.int k n) L2.nil
  | string s => exact L2.cons (.string s) L2.nil
  | ptrN => exact L2.cons .ptrN L2.nil
  | ptr h hs => exact L2.cons (.ptr h hs) L2.nil
  | sliceN n c => exact L2.cons (.sliceN n c) L2.nil
  | slice h hs ho => exact L2.cons (.slice h hs ho) L2.nil
  | mapN => exact L2.cons .mapN L2.nil
  | map h => exact L2.cons (.map h) L2.nil
  | func fn hf hfs hc hcs => exact L2.cons (.func fn hf hfs hc hcs) L2.nil
  | nilFunc => exact L2.cons .nilFunc L2.nil
  | iface t h => exact L2.cons (.iface t h) L2.nil
  | nilIface => exact L2.cons .nilIface L2.nil
  | tuple hl h => exact L2.cons (.tuple hl h) L2.nil

theorem oneCell_eq (v : Value) : oneCell v = v.oneCell' := by cases v <;> rfl
theorem VRel.one {φ : Map} {v v' : Value} (h : VRel φ v v') (h1 : oneCell v = true) : v'.oneCell' = true := by
  cases h <;> first | rfl | (simp [oneCell] at h1)
theorem allOne_spec : ∀ {l : List Value}, allOne l = true → ∀ v ∈ l, oneCell v = true
  | [], _, v, h => by simp at h
  | x :: l, h, v, hv => by
    unfold allOne at h
    split at h
    · rename_i hx
      rcases List.mem_cons.1 hv with rfl | hm
      · exact hx
      · exact allOne_spec h v hm
    · cases h
theorem LRel.one {φ : Map} {l l' : List Value} (h : LRel φ l l') (h1 : allOne l = true) : ∀ u ∈ l', u.oneCell' = true := by
  intro u hu
  obtain ⟨i, hi⟩ := List.getElem?_of_mem hu
  have hlt : i < l.length := by have := (List.getElem?_eq_some_iff.1 hi).1; rw [h.1]; exact this
  exact (h.2 i l[i] u (List.getElem?_eq_getElem hlt) hi).one (allOne_spec h1 _ (List.getElem_mem hlt))

theorem flatL_rel {φ : Map} : ∀ {l : List Value}, flat.flatL l = true → LRel φ l l
  | [], _ => L2.nil
  | v :: l, h => by
    have aux : ∀ (x : Value), VRel φ x x → flat.flatL l = true → LRel φ (x :: l) (x :: l) := fun x hx hl => L2.cons hx (flatL_rel hl)
    cases v with
    | bool b => exact aux _ (.bool b) h
    | int k n => exact aux _ (.int k n) h
    | string s => exact aux _ (.string s) h
    | pointer a => cases a with
      | none => exact aux _ .ptrN h
      | some a => simp [flat.flatL] at h
    | slice a n c => cases a with
      | none => exact aux _ (.sliceN n c) h
      | some a => simp [flat.flatL] at h
    | map r => cases r with
      | none => exact aux _ .mapN h
      | some a => simp [flat.flatL] at h
    | nilFunc => exact aux _ .nilFunc h
    | nilIface => exact aux _ .nilIface h
    | _ => simp [flat.flatL] at h

theorem flat_rel {φ : Map} {v : Value} (h : flat v = true) : VRel φ v v := by
  cases v with
  | bool b => exact .bool b
  | int k n => exact .int k n
  | string s => exact .string s
  | pointer a => cases a with
    | none => exact .ptrN
    | some a => simp [flat] at h
  | slice a n c => cases a with
    | none => exact .sliceN n c
    | some a => simp [flat] at h
  | map r => cases r with
    | none => exact .mapN
    | some a => simp [flat] at h
  | nilFunc => exact .nilFunc
  | nilIface => exact .nilIface
  | agg cs => exact VRel.agg' (flatL_rel (by simpa [flat] using h))
  | tuple cs => exact VRel.tuple' (flatL_rel (by simpa [flat] using h))
  | _ => simp [flat] at h

end Go.Abs
