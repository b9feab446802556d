/- A deterministic heap for the model, proved sound, and walks of the program over it: part 5. No condition. -/
import Derived.Test.YtamoepfiodgbbaaGreatDoorAb2
import Derived.Test.YtamoepfiodgbbaaGreatDoorAb3
import Derived.Test.YtamoepfiodgbbaaGreatDoorAb4
import Derived.Test.YtamoepfiodgbbaaGreatDoorAb1
set_option linter.unusedVariables false
set_option linter.unusedSimpArgs false
set_option linter.unusedSectionVars false
section
/- Some pieces under one's eyes: what stands where, and what was not touched. -/
namespace Go.Abs
variable {h h' : AW} {μ μ' : Paint} {P : Program} {ρ0 ρ ρ' : Store} {ns : List Nat} {rs : List Res} {c : Nat}

/-- What is not of these names stays. -/
def Fra (ns : List Nat) (ρ ρ' : Store) : Prop := ∀ c r, c ∉ ns → ρ c = some r → ρ' c = some r
theorem Fra.refl : Fra ns ρ ρ := fun _ _ _ h => h
theorem Fra.trans {ρ'' : Store} (a : Fra ns ρ ρ') (b : Fra ns ρ' ρ'') : Fra ns ρ ρ'' := fun c r hn hc => b c r hn (a c r hn hc)
theorem Fra.mono {ms : List Nat} (a : Fra ns ρ ρ') (hs : ∀ c, c ∈ ns → c ∈ ms) : Fra ms ρ ρ' := fun c r hn hc => a c r (fun x => hn (hs c x)) hc
theorem Fra.upd {r : Res} (a : Fra ns ρ ρ') (hc : c ∈ ns) : Fra ns ρ (ρ'.upd c r) := fun d r' hn hd => by
  rw [upd_ne (fun e => hn (by rw [e]; exact hc))]; exact a d r' hn hd
theorem Fra.new {r : Res} (a : Fra ns ρ ρ') (hc : ρ' c = none) : Fra ns ρ (ρ'.upd c r) := fun d r' hn hd => upd_old hc (a d r' hn hd)
/-- What only names of ns1 turned, seen with more names. -/
theorem Fra.call {ns1 : List Nat} {ρ'' : Store} (a : Fra ns ρ ρ') (b : Fra ns1 ρ' ρ'') (hs : ∀ c, c ∈ ns1 → c ∈ ns ∨ ρ c = none) : Fra ns ρ ρ'' := fun c r hn hc =>
  b c r (fun x => by rcases hs c x with y | y
                     · exact hn y
                     · rw [hc] at y; cases y) (a c r hn hc)

structure Pcs (ρ0 ρ : Store) (ns : List Nat) (rs : List Res) : Prop where
  nodup : ns.Nodup
  len : ns.length = rs.length
  at_ : ∀ (i : Nat) (c : Nat) (r : Res), ns[i]? = some c → rs[i]? = some r → ρ c = some r
  fra : Fra ns ρ0 ρ

theorem Pcs.init (hd : ns.Nodup) (hl : ns.length = rs.length) (ha : ∀ (i : Nat) (c : Nat) (r : Res), ns[i]? = some c → rs[i]? = some r → ρ c = some r) : Pcs ρ ρ ns rs := ⟨hd, hl, ha, Fra.refl⟩
theorem Pcs.get (W : Pcs ρ0 ρ ns rs) (i : Nat) {r : Res} (hr : rs[i]? = some r) : ∃ c, ns[i]? = some c ∧ ρ c = some r := by
  have hi : i < ns.length := by rw [W.len]; exact (List.getElem?_eq_some_iff.1 hr).1
  exact ⟨ns[i], List.getElem?_eq_getElem hi, W.at_ i _ _ (List.getElem?_eq_getElem hi) hr⟩
theorem Pcs.set (W : Pcs ρ0 ρ ns rs) (i : Nat) (hc : ns[i]? = some c) (r : Res) : Pcs ρ0 (ρ.upd c r) ns (rs.set i r) := by
  refine ⟨W.nodup, by simp [W.len], fun j d r' hd hr => ?_, W.fra.upd (List.mem_of_getElem? hc)⟩
  rw [List.getElem?_set] at hr
  split at hr
  · rename_i e; subst e
    rw [hc] at hd; cases hd
    split at hr
    · cases hr; exact upd_same
    · cases hr
  · rename_i e
    have hi := (List.getElem?_eq_some_iff.1 hc).1
    have hj := (List.getElem?_eq_some_iff.1 hd).1
    rw [upd_ne, W.at_ j d r' hd hr]
    intro e2; subst e2
    have := (List.getElem_inj (h₀ := hj) (h₁ := hi) W.nodup).1 (by rw [(List.getElem?_eq_some_iff.1 hc).2, (List.getElem?_eq_some_iff.1 hd).2])
    exact e this.symm
/-- A new name that nobody asks for. -/
theorem Pcs.tmp (W : Pcs ρ0 ρ ns rs) (hc : ρ c = none) (r : Res) : Pcs ρ0 (ρ.upd c r) ns rs :=
  ⟨W.nodup, W.len, fun j d r' hd hr => upd_old hc (W.at_ j d r' hd hr), W.fra.new hc⟩
theorem Pcs.notin (W : Pcs ρ0 ρ ns rs) (hc : ρ c = none) : c ∉ ns := fun hm => by
  obtain ⟨i, hi⟩ := List.getElem?_of_mem hm
  have hlt : i < rs.length := by rw [← W.len]; exact (List.getElem?_eq_some_iff.1 hi).1
  have := W.at_ i c _ hi (List.getElem?_eq_getElem hlt)
  rw [hc] at this; cases this
theorem Pcs.not0 (W : Pcs ρ0 ρ ns rs) (hc : ρ c = none) : ρ0 c = none := by
  cases hx : ρ0 c with
  | none => rfl
  | some r => rw [W.fra c r (W.notin hc) hx] at hc; cases hc
/-- A new name under one's eyes too. -/
theorem Pcs.new (W : Pcs ρ0 ρ ns rs) (hc : ρ c = none) (r : Res) : Pcs ρ0 (ρ.upd c r) (c :: ns) (r :: rs) := by
  refine ⟨List.nodup_cons.2 ⟨W.notin hc, W.nodup⟩, by simp [W.len], fun j d r' hd hr => ?_, fun d r' hn hd => ?_⟩
  · cases j with
    | zero => simp at hd hr; subst hd hr; exact upd_same
    | succ j => simp at hd hr; exact upd_old hc (W.at_ j d r' hd hr)
  · exact upd_old hc (W.fra d r' (fun x => hn (List.mem_cons_of_mem _ x)) hd)

theorem Pcs.tail {r : Res} (W : Pcs ρ0 ρ (c :: ns) (r :: rs)) (hc : ρ0 c = none) : Pcs ρ0 ρ ns rs :=
  ⟨(List.nodup_cons.1 W.nodup).2, by have := W.len; simpa using this, fun i d r' hd hr => W.at_ (i + 1) d r' (by simpa using hd) (by simpa using hr), fun d r' hn hd => W.fra d r' (fun x => by
    rcases List.mem_cons.1 x with rfl | y
    · rw [hc] at hd; cases hd
    · exact hn y) hd⟩
/-- A new name, behind the others. -/
theorem Pcs.snoc (W : Pcs ρ0 ρ ns rs) (hc : ρ c = none) (r : Res) : Pcs ρ0 (ρ.upd c r) (ns ++ [c]) (rs ++ [r]) := by
  refine ⟨?_, by simp [W.len], fun j d r' hd hr => ?_, fun d r' hn hd => ?_⟩
  · rw [List.nodup_append]
    refine ⟨W.nodup, by simp, fun a ha b hb => ?_⟩
    simp at hb; subst hb
    rintro rfl; exact W.notin hc ha
  · rcases Nat.lt_or_ge j ns.length with x | x
    · rw [List.getElem?_append_left x] at hd
      rw [List.getElem?_append_left (by rw [← W.len]; exact x)] at hr
      exact upd_old hc (W.at_ j d r' hd hr)
    · rw [List.getElem?_append_right x] at hd
      rw [List.getElem?_append_right (by rw [← W.len]; exact x), ← W.len] at hr
      cases hj : j - ns.length with
      | zero => rw [hj] at hd hr; simp at hd hr; subst hd hr; exact upd_same
      | succ k => rw [hj] at hd; simp at hd
  · exact upd_old hc (W.fra d r' (fun x => hn (List.mem_append_left _ x)) hd)
/-- Whose names: the old ones, and new ones. -/
def FrN (ns : List Nat) (ρ : Store) (ns' : List Nat) (ρ' : Store) : Prop := Fra ns ρ ρ' ∧ (∀ c, c ∈ ns' → c ∈ ns ∨ ρ c = none) ∧ ∀ c, c ∈ ns → c ∈ ns'
theorem FrN.refl : FrN ns ρ ns ρ := ⟨Fra.refl, fun _ h => .inl h, fun _ h => h⟩
theorem FrN.of (F : Fra ns ρ ρ') : FrN ns ρ ns ρ' := ⟨F, fun _ h => .inl h, fun _ h => h⟩
theorem FrN.trans {ns' ns'' : List Nat} {ρ'' : Store} (a : FrN ns ρ ns' ρ') (b : FrN ns' ρ' ns'' ρ'') : FrN ns ρ ns'' ρ'' := by
  refine ⟨fun c r hn hc => b.1 c r (fun x => ?_) (a.1 c r hn hc), fun c hc => ?_, fun c hc => b.2.2 c (a.2.2 c hc)⟩
  · rcases a.2.1 c x with y | y
    · exact hn y
    · rw [hc] at y; cases y
  · rcases b.2.1 c hc with x | x
    · exact a.2.1 c x
    · by_cases hn : c ∈ ns
      · exact .inl hn
      · refine .inr ?_
        cases hx : ρ c with
        | none => rfl
        | some r => rw [a.1 c r hn hx] at x; cases x
/-- What is nobody's behind a call was nobody's. -/
theorem FrN.none {ns' : List Nat} (a : FrN ns ρ ns' ρ') {c : Nat} (hn : c ∉ ns') (hc : ρ' c = none) : ρ c = none := by
  cases hz : ρ c with
  | none => rfl
  | some r => rw [a.1 c r (fun x => hn (a.2.2 c x)) hz] at hc; cases hc
/-- Without the first. -/
theorem Pcs.tail' {r : Res} (W : Pcs ρ ρ (c :: ns) (r :: rs)) : Pcs ρ ρ ns rs :=
  ⟨(List.nodup_cons.1 W.nodup).2, by have := W.len; simpa using this, fun i d r' hd hr => W.at_ (i + 1) d r' (by simpa using hd) (by simpa using hr), Fra.refl⟩
theorem Pcs.self (W : Pcs ρ0 ρ ns rs) : Pcs ρ ρ ns rs := ⟨W.nodup, W.len, W.at_, Fra.refl⟩
theorem Pcs.to {rs' : List Res} (W : Pcs ρ0 ρ ns rs) (e : rs = rs') : Pcs ρ ρ ns rs' := e ▸ W.self
theorem Pcs.eq {rs' : List Res} (W : Pcs ρ0 ρ ns rs) (e : rs = rs') : Pcs ρ0 ρ ns rs' := e ▸ W
theorem Pcs.names {ns' : List Nat} (W : Pcs ρ0 ρ ns rs) (e : ns = ns') : Pcs ρ0 ρ ns' rs := e ▸ W
/-- Seen from an earlier store. -/
theorem Pcs.back {ρ1 : Store} (W : Pcs ρ0 ρ ns rs) (F : Fra ns ρ1 ρ0) : Pcs ρ1 ρ ns rs := ⟨W.nodup, W.len, W.at_, F.trans W.fra⟩
/-- Others' turns. -/
theorem Pcs.keep {ms : List Nat} (W : Pcs ρ0 ρ ns rs) (F : Fra ms ρ ρ') (hd : ∀ c, c ∈ ms → c ∉ ns) : Pcs ρ' ρ' ns rs :=
  ⟨W.nodup, W.len, fun i c r hc hr => F c r (fun x => hd c x (List.mem_of_getElem? hc)) (W.at_ i c r hc hr), Fra.refl⟩
/-- What a call made anew. -/
theorem Pcs.adopt {r : Res} (W : Pcs ρ0 ρ ns rs) (V : Pcs ρ ρ' [c] [r]) (hc : ρ c = none) : Pcs ρ0 ρ' (c :: ns) (r :: rs) := by
  have hn := W.notin hc
  have h0 := W.not0 hc
  refine ⟨List.nodup_cons.2 ⟨hn, W.nodup⟩, by simp [W.len], fun i d s hd hs => ?_, fun d s hd hs => ?_⟩
  · cases i with
    | zero => exact V.at_ 0 d s (by simpa using hd) (by simpa using hs)
    | succ i =>
      simp at hd hs
      refine V.fra d s (fun hm => hn ?_) (W.at_ i d s hd hs)
      simp at hm; subst hm; exact List.mem_of_getElem? hd
  · simp only [List.mem_cons, not_or] at hd
    exact V.fra d s (fun hm => by simp at hm; exact hd.1 hm) (W.fra d s hd.2 hs)
/-- What a call turned. -/
theorem Pcs.put {r : Res} {i : Nat} (W : Pcs ρ0 ρ ns rs) (hc : ns[i]? = some c) (V : Pcs ρ ρ' [c] [r]) : Pcs ρ0 ρ' ns (rs.set i r) := by
  refine ⟨W.nodup, by simp [W.len], fun j d s hd hs => ?_, fun d s hd hs => V.fra d s (fun hm => hd (by simp at hm; subst hm; exact List.mem_of_getElem? hc)) (W.fra d s hd hs)⟩
  rw [List.getElem?_set] at hs
  have hi := List.getElem?_eq_some_iff.1 hc
  have hj := List.getElem?_eq_some_iff.1 hd
  split at hs
  · rename_i e; subst e
    rw [hc] at hd; cases hd
    split at hs
    · cases hs; exact V.at_ 0 _ _ rfl rfl
    · cases hs
  · rename_i e
    refine V.fra d s (fun hm => ?_) (W.at_ j d s hd hs)
    simp at hm; subst hm
    exact e ((List.getElem_inj (h₀ := hi.1) (h₁ := hj.1) W.nodup).1 (by rw [hi.2, hj.2]))
/-- A part of a slice. -/
def SubOf (a0 : Option Addr) (l0 : List Value) (a : Option Addr) (l : List Value) : Prop := ∃ k n, shO a0 k = some a ∧ l = (l0.drop k).take n
theorem SubOf.self {a : Option Addr} {l : List Value} (h : ∀ b, a = some b → b.spot = none) : SubOf a l a l := by
  refine ⟨0, l.length, ?_, by simp⟩
  cases a with
  | none => rfl
  | some b =>
    obtain ⟨i, off, s⟩ := b
    have := h _ rfl
    simp only at this
    subst this; rfl
theorem Sl.sub {a0 a : Option Addr} {l0 l : List Value} (X : Sl h a0 l0) (S : SubOf a0 l0 a l) : Sl h a l := by
  obtain ⟨k, n, e, rfl⟩ := S
  rcases X with ⟨rfl, rfl⟩ | ⟨i, off, rfl, hr⟩
  · simp only [shO, Option.some.injEq] at e; subst e
    exact .inl ⟨rfl, by simp⟩
  · simp only [shO, Option.some.injEq] at e; subst e
    refine .inr ⟨i, off + k, rfl, fun j hj => ?_⟩
    simp only [List.length_take, List.length_drop] at hj
    rw [List.getElem?_take_of_lt (by omega), List.getElem?_drop, Nat.add_assoc]
    exact hr _ (by omega)
/-- A slice that may be read, whatever becomes of the names ns. -/
def Rd (ρ : Store) (ns : List Nat) (a : Option Addr) (l : List Value) : Prop :=
  ∃ c, c ∉ ns ∧ ∃ r, ρ c = some r ∧ ∃ a0 l0, SubOf a0 l0 a l ∧ ((∃ cap sz, r = .sl a0 cap sz l0) ∨ (∃ vs, r = .ro vs ∧ (a0, l0) ∈ vs) ∨ (∃ vs cap sz, r = .many vs ∧ (a0, cap, sz, l0) ∈ vs))
theorem Own.spot (O : Own h μ ρ) {a : Option Addr} {cap sz : Nat} {l : List Value} (hc : ρ c = some (.sl a cap sz l)) : ∀ b, a = some b → b.spot = none := by
  have M : OM h μ c a cap sz l := O.holds _ _ hc
  rintro b rfl
  rcases M.mem with ⟨e, _⟩ | ⟨i, off, e, _⟩
  · cases e
  · cases e; rfl
theorem Rd.of_sl (O : Own h μ ρ) {a : Option Addr} {cap sz : Nat} {l : List Value} (hn : c ∉ ns) (hc : ρ c = some (.sl a cap sz l)) : Rd ρ ns a l :=
  ⟨c, hn, _, hc, a, l, SubOf.self (O.spot hc), .inl ⟨cap, sz, rfl⟩⟩
theorem Rd.of_ro {a0 a : Option Addr} {l0 l : List Value} {vs : List (Option Addr × List Value)} (hn : c ∉ ns) (hc : ρ c = some (.ro vs)) (hm : (a0, l0) ∈ vs) (S : SubOf a0 l0 a l) : Rd ρ ns a l :=
  ⟨c, hn, _, hc, a0, l0, S, .inr (.inl ⟨vs, rfl, hm⟩)⟩
theorem Rd.sl {a : Option Addr} {l : List Value} (R : Rd ρ ns a l) (O : Own h μ ρ) : Sl h a l := by
  obtain ⟨c, _, r, hc, a0, l0, S, ⟨cap, sz, rfl⟩ | ⟨vs, rfl, hm⟩ | ⟨vs, cap, sz, rfl, hm⟩⟩ := R
  · exact (O.sl hc).sub S
  · exact (O.ro hc hm).sub S
  · have M : OM _ _ c a0 cap sz l0 := (O.holds _ _ hc).1 _ _ _ _ hm
    exact M.sl.sub S
theorem Rd.of_many (O : Own h μ ρ) {a : Option Addr} {cap sz : Nat} {l : List Value} {vs : List (Option Addr × Nat × Nat × List Value)} (hn : c ∉ ns) (hc : ρ c = some (.many vs)) (hm : (a, cap, sz, l) ∈ vs) : Rd ρ ns a l := by
  have M : OM h μ c a cap sz l := (O.holds _ _ hc).1 _ _ _ _ hm
  refine ⟨c, hn, _, hc, a, l, SubOf.self ?_, .inr (.inr ⟨vs, cap, sz, rfl, hm⟩)⟩
  rintro b rfl
  rcases M.mem with ⟨e, _⟩ | ⟨i, off, e, _⟩
  · cases e
  · cases e; rfl
theorem Rd.keep {a : Option Addr} {l : List Value} (R : Rd ρ ns a l) (F : Fra ns ρ ρ') : Rd ρ' ns a l := by
  obtain ⟨c, hn, r, hc, rest⟩ := R
  exact ⟨c, hn, r, F c _ hn hc, rest⟩
theorem Rd.add {a : Option Addr} {l : List Value} (R : Rd ρ ns a l) (hc : ρ c = none) : Rd ρ (c :: ns) a l := by
  obtain ⟨d, hn, r, hd, rest⟩ := R
  refine ⟨d, fun hm => ?_, r, hd, rest⟩
  rcases List.mem_cons.1 hm with x | x
  · subst x; rw [hc] at hd; cases hd
  · exact hn x
theorem Rd.fresh {a : Option Addr} {l : List Value} (R : Rd ρ [] a l) (F : Fra [] ρ ρ') (hf : ∀ c, c ∈ ns → ρ c = none) : Rd ρ' ns a l := by
  obtain ⟨d, hn, r, hd, rest⟩ := R
  exact ⟨d, fun hm => (by rw [hf d hm] at hd; cases hd), r, F d r hn hd, rest⟩
theorem Rd.mono {ms : List Nat} {a : Option Addr} {l : List Value} (R : Rd ρ ns a l) (h : ∀ c, c ∈ ms → c ∈ ns) : Rd ρ ms a l := by
  obtain ⟨c, hn, x⟩ := R
  exact ⟨c, fun y => hn (h c y), x⟩
/-! Steps. -/
theorem w_rd (O : Own h μ ρ) (W : Pcs ρ0 ρ ns rs) (i : Nat) {p j : Nat} {l : List Value} {v : Value} {f : Value → Prop} (hr : rs[i]? = some (.var p l)) (hv : l[j]? = some v) (H : f v) : oB (h.rd p j) f := by
  obtain ⟨c, _, hc⟩ := W.get i hr
  exact o_rd O hc hv H
theorem w_wr (O : Own h μ ρ) (W : Pcs ρ0 ρ ns rs) (i : Nat) {p j : Nat} {l : List Value} {v : Value} {f : AW → Prop} (hr : rs[i]? = some (.var p l)) (hj : j < l.length) (h1 : oneCell v = true)
    (H : ∀ h' ρ', Own h' μ ρ' → Pcs ρ0 ρ' ns (rs.set i (.var p (l.set j v))) → f h') : oB (h.wr p j v) f := by
  obtain ⟨c, hn, hc⟩ := W.get i hr
  exact o_wr O hc hj h1 fun h' O' => H h' _ O' (W.set i hn _)
theorem w_wrL (O : Own h μ ρ) (W : Pcs ρ0 ρ ns rs) (i : Nat) {p j : Nat} {l vs : List Value} {f : AW → Prop} (hr : rs[i]? = some (.var p l)) (hj : j + vs.length ≤ l.length) (h1 : allOne vs = true)
    (H : ∀ h' ρ', Own h' μ ρ' → Pcs ρ0 ρ' ns (rs.set i (.var p (setAll l j vs))) → f h') : oB (h.wrL p j vs) f := by
  obtain ⟨c, hn, hc⟩ := W.get i hr
  exact o_wrL vs O hc hj h1 fun h' O' => H h' _ O' (W.set i hn _)
/-- A new block. -/
theorem w_new (O : Own h μ ρ) (W : Pcs ρ0 ρ ns rs) (l : List Value) : ∃ μ' ρ' c, Own (h.addVar l) μ' ρ' ∧ Pcs ρ0 ρ' (c :: ns) (.var h.next l :: rs) ∧ ρ0 c = none := by
  obtain ⟨c, hc⟩ := O.fresh
  exact ⟨_, _, c, o_addVar O c, W.new hc _, W.not0 hc⟩
/-- A new block that is a slice. -/
theorem w_block (O : Own h μ ρ) (W : Pcs ρ0 ρ ns rs) (l : List Value) {n sz : Nat} (hl : l.length = n * sz) (ha : allOne l = true) : ∃ μ' ρ' c, Own (h.addVar l) μ' ρ' ∧ Pcs ρ0 ρ' (c :: ns) (.sl (some ⟨h.next, 0, none⟩) n sz l :: rs) ∧ ρ0 c = none := by
  obtain ⟨c, hc⟩ := O.fresh
  exact ⟨_, _, c, o_block O c hl ha, W.new hc _, W.not0 hc⟩
/-- A slice of nothing. -/
theorem w_nil (O : Own h μ ρ) (W : Pcs ρ0 ρ ns rs) (sz : Nat) : ∃ ρ' c, Own h μ ρ' ∧ Pcs ρ0 ρ' (c :: ns) (.sl none 0 sz [] :: rs) ∧ ρ0 c = none := by
  obtain ⟨c, hc⟩ := O.fresh
  exact ⟨_, c, O.step (r := .sl none 0 sz []) Chg.refl (OM.nil (sz := sz)), W.new hc _, W.not0 hc⟩
theorem w_cap (O : Own h μ ρ) (W : Pcs ρ0 ρ ns rs) (i : Nat) {a : Option Addr} {cap sz : Nat} {l : List Value} (hr : rs[i]? = some (.sl a cap sz l)) : l.length ≤ cap * sz := by
  obtain ⟨c, _, hc⟩ := W.get i hr
  have M : OM h μ c a cap sz l := O.holds _ _ hc
  exact M.le
theorem w_sl (O : Own h μ ρ) (W : Pcs ρ0 ρ ns rs) (i : Nat) {a : Option Addr} {cap sz : Nat} {l : List Value} (hr : rs[i]? = some (.sl a cap sz l)) : Sl h a l := by
  obtain ⟨c, _, hc⟩ := W.get i hr
  exact O.sl hc
theorem w_i1_wr (O : Own h μ ρ) (W : Pcs ρ0 ρ ns rs) (i : Nat) {a : Option Addr} {cap : Nat} {l : List Value} (hr : rs[i]? = some (.sl a cap 1 l)) {z : Int} {j n : Nat} {v : Value} (hz : z = j) (hn : n = l.length) (hj : j < l.length) (h1 : oneCell v = true) {f : AW → Prop}
    (H : ∀ h' ρ', Own h' μ ρ' → Pcs ρ0 ρ' ns (rs.set i (.sl a cap 1 (l.set j v))) → f h') : aP a fun i off => oB (natIdx z n) fun j => oB (h.wr i (off + j * 1) v) f := by
  obtain ⟨c, hn', hc⟩ := W.get i hr
  exact o_i1_wr O hc hz hn hj h1 fun h' O' => H h' _ O' (W.set i hn' _)
theorem w_app (O : Own h μ ρ) (W : Pcs ρ0 ρ ns rs) (i : Nat) {ty e : TypeId} {u : TypeDesc} {g ag : Bool} {sz bt s1 b1 : Nat} {z1 : Option Value} {z : Value} (h1 : tiOf P ty = some ⟨.slice e, ag, s1, b1, z1⟩) (h2 : tiOf P e = some ⟨u, g, sz, bt, some z⟩) (hs : 0 < sz)
    {a : Option Addr} {cap : Nat} {l : List Value} (hr : rs[i]? = some (.sl a cap sz l)) {n m k : Nat} (hl : l.length = n * sz) {b : Option Addr} {new : List Value} (X : Sl h b new) (hn : new.length = m * sz) (ha : allOne new = true)
    (r1 : (n + m) * bt ≤ 70368744177664) (r2 : n + m ≤ 4611686018427387904) {f : Value → AW → Prop}
    (H : ∀ a' cap' h' μ' ρ', Own h' μ' ρ' → Pcs ρ0 ρ' ns (rs.set i (.sl a' cap' sz (l ++ new))) → f (.slice a' (n + m) cap') h') : oP (appendB P h ⟨[ty, ty]⟩ [.slice a n cap, .slice b m k]) f := by
  obtain ⟨c, hn', hc⟩ := W.get i hr
  exact o_app (te := ⟨u, g, sz, bt, some z⟩) O h1 h2 rfl hs hc hl X hn ha r1 r2 fun a' cap' h' μ' O' => H a' cap' h' μ' _ O' (W.set i hn' _)
/-- A new row of zeros. -/
theorem o_blockT (O : Own h μ ρ) (c : Nat) {l : List Value} {n sz : Nat} (hl : l.length = n * sz) (ha : allOne l = true) (t : TypeId) : Own ((h.addVar l).tag h.next t) (mkNew μ h.next c) (ρ.upd c (.sl (some ⟨h.next, 0, none⟩) n sz l)) :=
  O.step (r := .sl (some ⟨h.next, 0, none⟩) n sz l) (Chg.tag addVar_chg (Nat.le_refl _)) (OM.tag (OM.block hl ha))
theorem make_eq {t e : TypeId} {u : TypeDesc} {g ag : Bool} {sz bt s1 b1 : Nat} {z1 : Option Value} {z : Value} (h1 : tiOf P t = some ⟨.slice e, ag, s1, b1, z1⟩) (h2 : tiOf P e = some ⟨u, g, sz, bt, some z⟩) (n : Nat)
    (hz : z.cells.toList.length = sz) (hza : allOne (rep z.cells.toList n) = true) (hb : n * bt ≤ 140737488355328) (hn : n ≤ 9223372036854775807) : makeSliceV P h t (.int .i64 (n : Int)) (.int .i64 (n : Int)) = some (.slice (some ⟨h.next, 0, none⟩) n n, (h.addVar (rep z.cells.toList n)).tag h.next e) := by
  unfold makeSliceV
  rw [h1, show ((n : Nat) : Int) = Int.ofNat n from rfl]; simp only
  rw [h2]; simp only
  rw [Nat.ble_eq_true_of_le (Nat.le_refl n), Nat.ble_eq_true_of_le hb, Nat.ble_eq_true_of_le hn]
  simp only [Bool.and_self]
  rw [show Nat.beq z.cells.size sz = true from by rw [← hz, ← Array.length_toList, Nat.beq_refl]]
  simp only
  unfold AW.newVar
  rw [hza]
  rfl
theorem w_make (O : Own h μ ρ) (W : Pcs ρ0 ρ ns rs) {t e : TypeId} {u : TypeDesc} {g ag : Bool} {sz bt s1 b1 : Nat} {z1 : Option Value} {z : Value} (h1 : tiOf P t = some ⟨.slice e, ag, s1, b1, z1⟩) (h2 : tiOf P e = some ⟨u, g, sz, bt, some z⟩) (n : Nat)
    (hz : z.cells.toList.length = sz) (hza : allOne (rep z.cells.toList n) = true) (hb : n * bt ≤ 140737488355328) (hn : n ≤ 9223372036854775807) {f : Value → AW → Prop}
    (H : ∀ h' μ' ρ' c a, Own h' μ' ρ' → Pcs ρ0 ρ' (c :: ns) (.sl a n sz (rep z.cells.toList n) :: rs) → ρ0 c = none → f (.slice a n n) h') : oP (makeSliceV P h t (.int .i64 (n : Int)) (.int .i64 (n : Int))) f := by
  obtain ⟨c, hc⟩ := O.fresh
  rw [make_eq h1 h2 n hz hza hb hn]
  exact H _ _ _ c _ (o_blockT O c (by rw [rep_length, hz]) hza e) (W.new hc _) (W.not0 hc)
theorem bytesV_of : ∀ bs : List UInt8, bytesV (bs.map fun b => Value.int .u8 (b.toNat : Int)) = some bs
  | [] => rfl
  | b :: l => by
    rw [List.map_cons]
    unfold bytesV
    rw [bytesV_of l]
    simp
/-- What is forgotten was one's own. -/
theorem forget_ok {i cap sz : Nat} {l : List Value} (M : OM h μ c (some ⟨i, 0, none⟩) cap sz l) (hc : 0 < cap) : ∃ h', h.forget i = some h' ∧ Chg (· = c) h μ h' μ := by
  rcases M.mem with ⟨e, _⟩ | ⟨i', off, e, hi, hm, r, kk⟩
  · cases e
  cases e
  rcases kk with ⟨t, n, ro, ho, hb, hro⟩ | ⟨f, g, lo, hi', t, ext, frz, ho, hf, hfn, hfm, h5, h6, h7⟩
  · have hro : ro = false := by
      cases ro with
      | false => rfl
      | true => have := hro rfl; omega
    subst hro
    refine ⟨{ h with objs := h.objs.set i (.var .nil 0 false) }, by unfold AW.forget; rw [ho], Nat.le_refl _, fun _ _ => rfl, fun k hk hn => T.get?_set_ne _ _ (fun e => hn (by rw [e, hm])), fun _ _ _ => rfl, fun _ _ => rfl⟩
  · refine ⟨{ h with fams := h.fams.set f ⟨g + 1, ext, frz⟩ }, by unfold AW.forget; rw [ho]; simp only; rw [hf]; simp only; rw [Nat.beq_refl], Nat.le_refl _, fun _ _ => rfl, fun _ _ _ => rfl, fun k hk hn => T.get?_set_ne _ _ (fun e => hn (by rw [e, hfm])), fun _ _ => rfl⟩
/-- unsafe.String of bytes that are one's own: they are given away. -/
theorem w_ustr (O : Own h μ ρ) {d i0 cap : Nat} {l : List Value} {e : TypeId} (W : Pcs ρ0 ρ (c :: d :: ns) (.sl (some ⟨i0, 0, none⟩) cap 1 l :: .ty i0 e :: rs)) (hc0 : ρ0 c = none) (hd0 : ρ0 d = none) {pt it : TypeId} {ag : Bool} {s1 b1 : Nat} {z1 : Option Value} {te : TI} (h1 : tiOf P pt = some ⟨.pointer e, ag, s1, b1, z1⟩) (h2 : tiOf P e = some te) (hs : te.size = 1)
    {bs : List UInt8} (hl : l = bs.map fun b => Value.int .u8 (b.toNat : Int)) (hb0 : bs ≠ []) (hb : bs.length ≤ 9223372036854775807) {f : Value → AW → Prop}
    (H : ∀ h' ρ', Own h' μ ρ' → Pcs ρ0 ρ' ns rs → f (.string ⟨⟨bs⟩⟩) h') : oP (ustrB P h ⟨[pt, it]⟩ [.pointer (some ⟨i0, 0, none⟩), .int .i64 (bs.length : Int)]) f := by
  have hc : ρ c = some (.sl (some ⟨i0, 0, none⟩) cap 1 l) := W.at_ 0 _ _ rfl rfl
  have hd : ρ d = some (.ty i0 e) := W.at_ 1 _ _ rfl rfl
  have M : OM h μ c (some ⟨i0, 0, none⟩) cap 1 l := O.holds _ _ hc
  obtain ⟨hlt, hty⟩ := O.holds _ _ hd
  have hlen : l.length = bs.length := by rw [hl]; simp
  have hpos : 0 < bs.length := List.length_pos_iff.2 hb0
  have hcap : 0 < cap := by have := M.le; omega
  obtain ⟨h', ef, C⟩ := forget_ok M hcap
  have hr := M.rdN hlen
  have : ustrB P h ⟨[pt, it]⟩ [.pointer (some ⟨i0, 0, none⟩), .int .i64 (bs.length : Int)] = some (.string ⟨⟨bs⟩⟩, h') := by
    unfold ustrB
    rw [show ((bs.length : Nat) : Int) = Int.ofNat bs.length from rfl]
    simp only
    rw [show Nat.beq bs.length 0 = false from by
      rw [← Bool.not_eq_true, Nat.beq_eq]; omega, Nat.ble_eq_true_of_le hb]
    simp only
    rw [Nat.beq_refl, h1, hty]
    simp only
    rw [Nat.beq_refl, h2]
    simp only
    rw [hs, Nat.beq_refl, hr]
    simp only
    rw [hl, bytesV_of, ef]
  rw [this]
  have O' := O.step (c := c) (r := .many []) C ⟨fun a cap sz l hm => by simp at hm, Sep.nil⟩
  have W' := W.set 0 (c := c) rfl (.many [])
  exact H _ _ O' ((W'.tail hc0).tail hd0)
theorem rep_one (v : Value) : ∀ n, rep [v] n = List.replicate n v
  | 0 => rfl
  | n + 1 => by rw [rep, rep_one v n, List.replicate_succ]; rfl
/-- The same under other marks. -/
theorem OM.repaint {c d : Nat} {a : Option Addr} {cap sz : Nat} {l : List Value} (hm : ∀ i, i < h.next → μ i = c → μ' i = d) (H : OM h μ c a cap sz l) : OM h μ' d a cap sz l := by
  refine (⟨H.le, H.one, ?_⟩ : OM h μ' d a cap sz l)
  rcases H.mem with x | ⟨i, off, e, hi, hc, r, k⟩
  · exact .inl x
  · refine .inr ⟨i, off, e, hi, hm i hi hc, r, ?_⟩
    rcases k with x | ⟨f, g, lo, hi', t, ext, frz, h1, h2, h3, h4, h5⟩
    · exact .inl x
    · exact .inr ⟨f, g, lo, hi', t, ext, frz, h1, h2, h3, hm f h3 h4, h5⟩
theorem Res.Holds.repaint {c d : Nat} {r : Res} (hm : ∀ i, i < h.next → μ i = c → μ' i = d) (H : r.Holds h μ c) : r.Holds h μ' d := by
  cases r with
  | var i l =>
    obtain ⟨a, b, V⟩ := H
    exact ⟨a, hm i a b, V⟩
  | sl a cap sz l => exact OM.repaint hm H
  | map i es =>
    obtain ⟨a, b, V⟩ := H
    exact ⟨a, hm i a b, V⟩
  | ro vs =>
    intro a l hv
    rcases H a l hv with x | ⟨i, off, e, h1, h2, h3, r⟩
    · exact .inl x
    · exact .inr ⟨i, off, e, h1, hm i h1 h2, fun f g lo hi z t hr => ⟨(h3 f g lo hi z t hr).1, hm f (h3 f g lo hi z t hr).1 (h3 f g lo hi z t hr).2⟩, r⟩
  | many vs => exact ⟨fun a cap sz l hv => (H.1 a cap sz l hv).repaint hm, H.2⟩
  | bag vs => exact ⟨fun a cap sz n hv => let ⟨l, h1, h2⟩ := H.1 a cap sz n hv; ⟨l, h1, h2.repaint hm⟩, H.2⟩
  | ty i t => exact H
/-- Two pieces under one name. -/
theorem w_join (O : Own h μ ρ) {r r2 r3 : Res} (W : Pcs ρ0 ρ (c :: ns) (r :: rs)) (h0 : ρ0 c = none) (i : Nat) (hi : rs[i]? = some r2) (hj : ∀ (μ μ' : Paint) c d, c ≠ d → r.Holds h μ c → r2.Holds h μ d → r.Holds h μ' d → r2.Holds h μ' d → r3.Holds h μ' d) : ∃ μ' ρ', Own h μ' ρ' ∧ Pcs ρ0 ρ' ns (rs.set i r3) := by
  have hil : i < rs.length := (List.getElem?_eq_some_iff.1 hi).1
  have hin : i < ns.length := by have := W.len; simp at this; omega
  have hd : ns[i]? = some ns[i] := List.getElem?_eq_getElem hin
  generalize ns[i] = d at hd
  have hcn : c ∉ ns := (List.nodup_cons.1 W.nodup).1
  have hdc : d ≠ c := fun e => hcn (by rw [← e]; exact List.mem_of_getElem? hd)
  have hc : ρ c = some r := W.at_ 0 c r rfl rfl
  have hd2 : ρ d = some r2 := W.at_ (i + 1) d r2 (by simpa using hd) (by simpa using hi)
  let ρ1 : Store := fun x => if x = d then some r3 else if x = c then none else ρ x
  let μ1 : Paint := fun x => if μ x = c then d else μ x
  have O1 : Own h μ1 ρ1 := by
    refine ⟨?_, fun e r' he => ?_⟩
    · obtain ⟨N, hN⟩ := O.fin
      refine ⟨Nat.max N (d + 1), fun e he => ?_⟩
      have h1 : N ≤ e := Nat.le_trans (Nat.le_max_left _ _) he
      have h2 : d + 1 ≤ e := Nat.le_trans (Nat.le_max_right _ _) he
      show (if e = d then some r3 else if e = c then none else ρ e) = none
      rw [if_neg (by omega)]
      split
      · rfl
      · exact hN e h1
    · have he2 : (if e = d then some r3 else if e = c then none else ρ e) = some r' := he
      clear he
      by_cases ed : e = d
      · rw [if_pos ed] at he2
        cases he2
        rw [ed]
        exact hj μ μ1 c d (fun e => hdc e.symm) (O.holds c r hc) (O.holds d r2 hd2) ((O.holds c r hc).repaint fun j _ hj => by simp [μ1, hj]) ((O.holds d r2 hd2).repaint fun j _ hj => by simp [μ1, hj, hdc])
      · rw [if_neg ed] at he2
        by_cases ec : e = c
        · rw [if_pos ec] at he2; cases he2
        · rw [if_neg ec] at he2
          exact (O.holds e r' he2).repaint fun j _ hj => by simp [μ1, hj, ec]
  refine ⟨μ1, ρ1, O1, (List.nodup_cons.1 W.nodup).2, by have := W.len; simp at this ⊢; omega, fun j e r' hj hr => ?_, fun e r' hn he => ?_⟩
  · rw [List.getElem?_set] at hr
    have hje := (List.getElem?_eq_some_iff.1 hj)
    have hie := (List.getElem?_eq_some_iff.1 hd)
    show (if e = d then some r3 else if e = c then none else ρ e) = some r'
    by_cases x : i = j
    · subst x
      rw [if_pos rfl, if_pos hil] at hr; cases hr
      rw [hd] at hj; cases hj
      rw [if_pos rfl]
    · rw [if_neg x] at hr
      have : e ≠ d := fun y => x (by
        have := (List.getElem_inj (h₀ := hje.1) (h₁ := hie.1) (List.nodup_cons.1 W.nodup).2).1 (by rw [hje.2, hie.2, y])
        exact this.symm)
      rw [if_neg this, if_neg (fun y => hcn (by rw [← y]; exact List.mem_of_getElem? hj))]
      exact W.at_ (j + 1) e r' (by simpa using hj) (by simpa using hr)
  · show (if e = d then some r3 else if e = c then none else ρ e) = some r'
    rw [if_neg (fun y => hn (by rw [y]; exact List.mem_of_getElem? hd)), if_neg (fun y => by rw [y, h0] at he; cases he)]
    exact W.fra e r' (fun y => by
      rcases List.mem_cons.1 y with z | z
      · rw [z, h0] at he; cases he
      · exact hn z) he
/-- No slices as yet. -/
theorem w_many (O : Own h μ ρ) (W : Pcs ρ0 ρ ns rs) : ∃ ρ' c, Own h μ ρ' ∧ Pcs ρ0 ρ' (c :: ns) (.many [] :: rs) ∧ ρ0 c = none := by
  obtain ⟨c, hc⟩ := O.fresh
  exact ⟨_, c, O.step (r := .many []) Chg.refl ⟨fun a cap sz l hm => by simp at hm, Sep.nil⟩, W.new hc _, W.not0 hc⟩
/-- A slice joins the others. -/
theorem w_into (O : Own h μ ρ) {a : Option Addr} {cap sz : Nat} {l : List Value} {vs : List (Option Addr × Nat × Nat × List Value)} (W : Pcs ρ0 ρ (c :: ns) (.sl a cap sz l :: rs)) (h0 : ρ0 c = none) (i : Nat) (hi : rs[i]? = some (.many vs)) :
    ∃ μ' ρ', Own h μ' ρ' ∧ Pcs ρ0 ρ' ns (rs.set i (.many ((a, cap, sz, l) :: vs))) :=
  w_join O W h0 i hi fun μ μ' c d hcd g1 g2 h1 h2 => ⟨fun a' cap' sz' l' hm => by
    rcases List.mem_cons.1 hm with e | hm
    · cases e; exact h1
    · exact h2.1 _ _ _ _ hm, by
    rw [List.map_cons, ← List.singleton_append]
    refine Sep.app hcd (fun i o f hm hf => ?_) (many_fam g2.1) Sep.one g2.2
    simp only [List.mem_singleton] at hm
    subst hm
    exact OM.fam g1 hf⟩
/-- From an element on. -/
theorem Sl.from {a : Option Addr} {l : List Value} (X : Sl h a l) (k : Nat) {f : Option Addr → Prop} (H : ∀ a', Sl h a' (l.drop k) → f a') : oB (shO a k) f := by
  rcases X with ⟨rfl, rfl⟩ | ⟨i, off, rfl, hr⟩
  · exact H none (.inl ⟨rfl, by simp⟩)
  · refine H _ (.inr ⟨i, off + k, rfl, fun j hj => ?_⟩)
    rw [List.length_drop] at hj
    rw [List.getElem?_drop, show off + k + j = off + (k + j) from by omega]
    exact hr _ (by omega)
theorem Sl.take {a : Option Addr} {l : List Value} (X : Sl h a l) (k : Nat) : Sl h a (l.take k) := by
  rcases X with ⟨rfl, rfl⟩ | ⟨i, off, rfl, hr⟩
  · exact .inl ⟨rfl, by simp⟩
  · refine .inr ⟨i, off, rfl, fun j hj => ?_⟩
    rw [List.length_take] at hj
    rw [hr j (by omega), List.getElem?_take_of_lt (by omega)]
end Go.Abs
end

section
/- Statements with bodies, as lists of lists: no Go in it; and how they lie in memory. -/
namespace Go.Abs.Fo
open Go.Abs

/-- A list of statements: each has a kind, words, a number and a body. -/
inductive F where
  | nil
  | cons (op : Int) (args : List Str) (n : Int) (body rest : F)
namespace F
def len : F → Nat
  | nil => 0
  | cons _ _ _ _ r => r.len + 1
def app : F → F → F
  | nil, g => g
  | cons o a n b r, g => cons o a n b (r.app g)
def eqB : F → F → Bool
  | nil, nil => true
  | cons o a n b r, cons o' a' n' b' r' => decide (o = o') && decide (n = n') && decide (a = a') && eqB b b' && eqB r r'
  | _, _ => false
theorem eqB_iff : ∀ {f g : F}, eqB f g = true ↔ f = g
  | nil, nil => by simp [eqB]
  | nil, cons .. => by simp [eqB]
  | cons .., nil => by simp [eqB]
  | cons o a n b r, cons o' a' n' b' r' => by
    simp only [eqB, Bool.and_eq_true, decide_eq_true_eq, eqB_iff (f := b) (g := b'), eqB_iff (f := r) (g := r'), cons.injEq]
    constructor
    · rintro ⟨⟨⟨⟨rfl, rfl⟩, rfl⟩, rfl⟩, rfl⟩; exact ⟨rfl, rfl, rfl, rfl, rfl⟩
    · rintro ⟨rfl, rfl, rfl, rfl, rfl⟩; exact ⟨⟨⟨⟨rfl, rfl⟩, rfl⟩, rfl⟩, rfl⟩
theorem eqB_self (f : F) : eqB f f = true := eqB_iff.2 rfl
theorem app_len : ∀ (f g : F), (f.app g).len = f.len + g.len
  | nil, g => by simp [app, len]
  | cons _ _ _ _ r, g => by simp only [app, len, app_len r g]; omega
theorem app_nil : ∀ f : F, f.app nil = f
  | nil => rfl
  | cons o a n b r => by rw [app, app_nil r]
theorem app_assoc : ∀ f g k : F, (f.app g).app k = f.app (g.app k)
  | nil, _, _ => rfl
  | cons o a n b r, g, k => by rw [app, app, app, app_assoc r]
theorem eqB_len : ∀ {f g : F}, f.len ≠ g.len → eqB f g = false
  | nil, nil, h => absurd rfl h
  | nil, cons .., _ => rfl
  | cons .., nil, _ => rfl
  | cons o a n b r, cons o' a' n' b' r', h => by
    have : eqB r r' = false := eqB_len fun e => h (by simp [len, e])
    simp [eqB, this]
end F
/-- What may be read: a slice of cells at an address. -/
def Vw (ρ : Store) (ns : List Nat) (a : Option Addr) (l : List Value) : Prop := (a = none ∧ l = []) ∨ Rd ρ ns a l
variable {h : AW} {μ : Paint} {ρ ρ' : Store} {ns : List Nat}
theorem Vw.sl {a : Option Addr} {l : List Value} (X : Vw ρ ns a l) (O : Own h μ ρ) : Sl h a l := X.elim (fun x => .inl x) fun x => x.sl O
theorem Vw.mono {ms : List Nat} {a : Option Addr} {l : List Value} (X : Vw ρ ns a l) (hs : ∀ c, c ∈ ms → c ∈ ns) : Vw ρ ms a l := X.imp id fun x => x.mono hs
theorem Vw.keep {a : Option Addr} {l : List Value} (X : Vw ρ ns a l) (F : Fra ns ρ ρ') : Vw ρ' ns a l := X.imp id fun x => x.keep F

/-- How a list of statements lies: its cells, and what they point to. -/
def Lies (V : Option Addr → List Value → Prop) : F → List Value → Prop
  | .nil, cells => cells = []
  | .cons op args n body rest, cells => ∃ aa ac ba bc bcells rcells, cells = [.int .i64 op, .slice aa args.length ac, .int .i64 n, .slice ba body.len bc] ++ rcells ∧ V aa (strs args) ∧ V ba bcells ∧ Lies V body bcells ∧ Lies V rest rcells
theorem Lies.mono {V V' : Option Addr → List Value → Prop} (hV : ∀ a l, V a l → V' a l) : ∀ {f : F} {cells : List Value}, Lies V f cells → Lies V' f cells
  | .nil, _, h => h
  | .cons _ _ _ _ _, _, ⟨aa, ac, ba, bc, bcells, rcells, h1, h2, h3, h4, h5⟩ => ⟨aa, ac, ba, bc, bcells, rcells, h1, hV _ _ h2, hV _ _ h3, Lies.mono hV h4, Lies.mono hV h5⟩
theorem Lies.len {V : Option Addr → List Value → Prop} : ∀ {f : F} {cells : List Value}, Lies V f cells → cells.length = f.len * 4
  | .nil, _, h => by
    have h : _ = [] := h
    rw [h]; simp [F.len]
  | .cons _ _ _ _ _, _, ⟨aa, ac, ba, bc, bcells, rcells, h1, h2, h3, h4, h5⟩ => by
    rw [h1]
    have := Lies.len h5
    simp [F.len, this]; omega
theorem Lies.app {V : Option Addr → List Value → Prop} : ∀ {f g : F} {c1 c2 : List Value}, Lies V f c1 → Lies V g c2 → Lies V (f.app g) (c1 ++ c2)
  | .nil, g, c1, c2, h, k => by
    have h : c1 = [] := h
    rw [h]; exact k
  | .cons _ _ _ _ _, g, c1, c2, ⟨aa, ac, ba, bc, bcells, rcells, h1, h2, h3, h4, h5⟩, k => ⟨aa, ac, ba, bc, bcells, rcells ++ c2, by rw [h1]; simp, h2, h3, h4, Lies.app h5 k⟩
theorem lies_split {V : Option Addr → List Value → Prop} : ∀ {f g : F} {c : List Value}, Lies V (f.app g) c → ∃ c1 c2, c = c1 ++ c2 ∧ Lies V f c1 ∧ Lies V g c2
  | .nil, g, c, h => ⟨[], c, rfl, rfl, h⟩
  | .cons _ _ _ _ _, g, c, ⟨aa, ac, ba, bc, bcells, rcells, h1, h2, h3, h4, h5⟩ => by
    obtain ⟨c1, c2, e, k1, k2⟩ := lies_split h5
    exact ⟨_ ++ c1, c2, by rw [h1, e, List.append_assoc], ⟨aa, ac, ba, bc, bcells, c1, rfl, h2, h3, h4, k1⟩, k2⟩
/-- The statement at a place. -/
theorem lies_at {V : Option Addr → List Value → Prop} {pre rest body : F} {op n : Int} {args : List Str} {c : List Value} (L : Lies V (pre.app (.cons op args n body rest)) c) :
    ∃ aa ac ba bc bcells, V aa (strs args) ∧ V ba bcells ∧ Lies V body bcells ∧
      c[pre.len * 4]? = some (.int .i64 op) ∧ c[pre.len * 4 + 1]? = some (.slice aa args.length ac) ∧ c[pre.len * 4 + 2]? = some (.int .i64 n) ∧ c[pre.len * 4 + 3]? = some (.slice ba body.len bc) := by
  obtain ⟨c1, c2, rfl, L1, aa, ac, ba, bc, bcells, rcells, rfl, h2, h3, h4, h5⟩ := lies_split L
  have hl := L1.len
  refine ⟨aa, ac, ba, bc, bcells, h2, h3, h4, ?_, ?_, ?_, ?_⟩
  · rw [List.getElem?_append_right (by omega), hl, Nat.sub_self]; rfl
  · rw [List.getElem?_append_right (by omega), hl, show pre.len * 4 + 1 - pre.len * 4 = 1 from by omega]; rfl
  · rw [List.getElem?_append_right (by omega), hl, show pre.len * 4 + 2 - pre.len * 4 = 2 from by omega]; rfl
  · rw [List.getElem?_append_right (by omega), hl, show pre.len * 4 + 3 - pre.len * 4 = 3 from by omega]; rfl
namespace F
/-- One statement behind the others. -/
def snoc (f : F) (op : Int) (args : List Str) (n : Int) (body : F) : F := f.app (.cons op args n body .nil)
theorem snoc_app (f : F) (op : Int) (args : List Str) (n : Int) (body rest : F) : (f.snoc op args n body).app rest = f.app (.cons op args n body rest) := by
  unfold snoc; rw [app_assoc]; rfl
theorem snoc_len (f : F) (op : Int) (args : List Str) (n : Int) (body : F) : (f.snoc op args n body).len = f.len + 1 := by
  unfold snoc; rw [app_len]; rfl
end F
end Go.Abs.Fo
end

section
/- Actions: lines of words as statements, and what is said of them; no Go in it. -/
namespace Go.Abs.Fo
open Go.Abs

abbrev Line := List Str
abbrev wEnd : Str := ⟨#[101, 110, 100]⟩
abbrev wNeed : Str := ⟨#[110, 101, 101, 100]⟩
abbrev wCat : Str := ⟨#[99, 97, 116]⟩
abbrev wText : Str := ⟨#[116, 101, 120, 116]⟩
abbrev wUpper : Str := ⟨#[117, 112, 112, 101, 114]⟩
abbrev wSort : Str := ⟨#[115, 111, 114, 116]⟩
abbrev wUniq : Str := ⟨#[117, 110, 105, 113]⟩
abbrev wCount : Str := ⟨#[99, 111, 117, 110, 116]⟩
abbrev wWrite : Str := ⟨#[119, 114, 105, 116, 101]⟩
abbrev wFail : Str := ⟨#[102, 97, 105, 108]⟩
abbrev wRepeat : Str := ⟨#[114, 101, 112, 101, 97, 116]⟩
abbrev wEach : Str := ⟨#[101, 97, 99, 104]⟩
abbrev wWhen : Str := ⟨#[119, 104, 101, 110]⟩
abbrev kinds : List Str := [e0, wNeed, wCat, wText, wUpper, wSort, wUniq, wCount, wWrite, wFail, wRepeat, wEach, wWhen]
/-- A kind's first word. -/
def wordM (op : Int) : Str := match op with
  | .ofNat n => (kinds[n]?).getD e0
  | .negSucc _ => e0
/-- The kind of a first word; 0: none. -/
def opOf (w : Str) : Nat :=
  if w = wNeed then 1 else if w = wCat then 2 else if w = wText then 3 else if w = wUpper then 4 else if w = wSort then 5 else if w = wUniq then 6
  else if w = wCount then 7 else if w = wWrite then 8 else if w = wFail then 9 else if w = wRepeat then 10 else if w = wEach then 11 else if w = wWhen then 12 else 0
/-- How many words a kind has; -1: any number. -/
def argsM (op : Int) : Int := if op = 1 ∨ op = 2 ∨ op = 8 ∨ op = 11 then 1 else if op = 3 ∨ op = 9 then -1 else if op = 12 then 2 else 0
def fitsM (op : Int) (n : Nat) : Bool := decide (argsM op < 0) || decide (argsM op = n)
def opensM (op : Int) : Bool := decide (10 ≤ op) && decide (op ≤ 12)
/-- A number in decimal digits. -/
def digB (n : Nat) : UInt8 := UInt8.ofNat (48 + n % 10)
def digits : Nat → Nat → List UInt8
  | 0, n => [digB n]
  | k + 1, n => if n ≥ 10 then digits k (n / 10) ++ [digB n] else [digB n]
def digS (n : Nat) : Str := ⟨⟨digits 20 n⟩⟩
/-- The number that digits say. -/
def numL : List UInt8 → Nat → Option Nat
  | [], n => some n
  | b :: l, n => if b.toNat < 48 ∨ 57 < b.toNat then none else numL l (10 * n + (b.toNat - 48))
def numM (s : Str) : Int :=
  if s.size < 1 ∨ 4 < s.size then -1 else
  match numL s.data.toList 0 with
  | none => -1
  | some n => if n > 1000 ∨ digS n ≠ s then -1 else n
/-- A line as a statement. -/
structure X where
  op : Int
  args : List Str
  n : Int
  ok : Bool
  deriving DecidableEq
def stmtM : Line → X
  | [] => ⟨0, [], 0, false⟩
  | w :: args =>
    if opOf w = 10 then
      match args with
      | [s] => ⟨10, [], numM s, decide (numM s ≥ 0)⟩
      | _ => ⟨0, [], 0, false⟩
    else ⟨opOf w, args, 0, decide (0 < opOf w) && fitsM (opOf w) args.length⟩
/-- Where a reader of lines stands. -/
structure PS where
  i : Nat
  many : Nat
  err : Int
  bad : Int
/-- The statements of a body. -/
def bd : Nat → Nat → List Line → PS → F × List Line × PS
  | 0, _, r, s => (.nil, r, s)
  | n + 1, deep, r, s =>
    if s.err ≠ 0 then (.nil, r, s) else
    match r with
    | [] => (.nil, [], if deep > 0 then { s with err := 131, bad := s.i } else s)
    | l :: r =>
      if l = [wEnd] then (.nil, r, if deep = 0 then { s with i := s.i + 1, err := 131, bad := s.i } else { s with i := s.i + 1 }) else
      let x := stmtM l
      if x.ok = false then (.cons x.op x.args x.n .nil .nil, r, ⟨s.i + 1, s.many + 1, 130, s.i⟩)
      else if s.many + 1 > 256 then (.cons x.op x.args x.n .nil .nil, r, ⟨s.i + 1, s.many + 1, 3, s.i⟩)
      else if opensM x.op = true then
        if deep = 8 then (.cons x.op x.args x.n .nil .nil, r, ⟨s.i + 1, s.many + 1, 132, s.i⟩) else
        let p := bd n (deep + 1) r ⟨s.i + 1, s.many + 1, 0, s.bad⟩
        let q := bd n deep p.2.1 p.2.2
        (.cons x.op x.args x.n p.1 q.1, q.2.1, q.2.2)
      else
        let q := bd n deep r ⟨s.i + 1, s.many + 1, 0, s.bad⟩
        (.cons x.op x.args x.n .nil q.1, q.2.1, q.2.2)
def ps0 : PS := ⟨0, 0, 0, 0⟩
/-- Lines as statements, or where they go wrong. -/
def parseM (ls : List Line) : F × Int × Int :=
  let p := bd (ls.length + 1) 0 ls ps0
  if p.2.2.err ≠ 0 then (.nil, p.2.2.err, p.2.2.bad) else (p.1, 0, 0)
/-- The first error of lines. -/
def chk : List Line → Nat → Nat → Nat → Int × Int
  | [], i, o, _ => if o > 0 then (131, i) else (0, 0)
  | l :: r, i, o, m =>
    if l = [wEnd] then (if o = 0 then (131, i) else chk r (i + 1) (o - 1) m) else
    let x := stmtM l
    if x.ok = false then (130, i)
    else if m + 1 > 256 then (3, i)
    else if opensM x.op = true then (if o = 8 then (132, i) else chk r (i + 1) (o + 1) (m + 1))
    else chk r (i + 1) o (m + 1)
theorem bd_len : ∀ (n deep : Nat) (r : List Line) (s : PS), (bd n deep r s).2.1.length ≤ r.length
  | 0, _, r, s => Nat.le_refl _
  | n + 1, deep, r, s => by
    unfold bd
    split
    · exact Nat.le_refl _
    · cases r with
      | nil => exact Nat.le_refl _
      | cons l r =>
        simp only
        split
        · simp
        · split
          · simp
          · split
            · simp
            · split
              · split
                · simp
                · have h1 := bd_len n (deep + 1) r ⟨s.i + 1, s.many + 1, 0, s.bad⟩
                  have h2 := bd_len n deep (bd n (deep + 1) r ⟨s.i + 1, s.many + 1, 0, s.bad⟩).2.1 (bd n (deep + 1) r ⟨s.i + 1, s.many + 1, 0, s.bad⟩).2.2
                  simp only [List.length_cons]; omega
              · have h1 := bd_len n deep r ⟨s.i + 1, s.many + 1, 0, s.bad⟩
                simp only [List.length_cons]; omega
theorem bd_err {n deep : Nat} {r : List Line} {s : PS} (h : s.err ≠ 0) : bd n deep r s = (.nil, r, s) := by
  cases n with
  | zero => rfl
  | succ n => cases r <;> rw [bd, if_pos h]
end Go.Abs.Fo
end

section
/- Readers: what is read stays; statements in memory. -/
namespace Go.Abs
variable {h h' : AW} {μ μ' : Paint} {P : Program} {ρ0 ρ ρ' : Store} {ns : List Nat} {rs : List Res} {c : Nat}
theorem Pcs.keep0 (W : Pcs ρ0 ρ ns rs) (F : Fra [] ρ ρ') : Pcs ρ0 ρ' ns rs :=
  ⟨W.nodup, W.len, fun i c r hc hr => F c r (by simp) (W.at_ i c r hc hr), fun c r hn hc => F c r (by simp) (W.fra c r hn hc)⟩
theorem p00 : Pcs ρ ρ [] [] := Pcs.init List.nodup_nil rfl (by intro i c r h; simp at h)
/-- New names alone. -/
theorem Pcs.fra0 (W : Pcs ρ0 ρ ns rs) (hn : ∀ c, c ∈ ns → ρ0 c = none) : Fra [] ρ0 ρ := fun c r _ hc => W.fra c r (fun hm => by rw [hn c hm] at hc; cases hc) hc
theorem Fra.none0 (F : Fra [] ρ ρ') (h : ρ' c = none) : ρ c = none := by
  cases hx : ρ c with
  | none => rfl
  | some r => rw [F c r (by simp) hx] at h; cases h
/-- What a reader comes to. -/
def RdQ (Q : Value → AW → Prop) (ρ : Store) (v : Value) : Prop := ∀ h' μ' ρ', Own h' μ' ρ' → Fra [] ρ ρ' → Q v h'
theorem RdQ.keep {Q : Value → AW → Prop} {v : Value} (H : RdQ Q ρ v) (F : Fra [] ρ ρ') : RdQ Q ρ' v := fun h' μ' ρ'' O G => H h' μ' ρ'' O (F.trans G)
theorem RdQ.now {Q : Value → AW → Prop} {v : Value} (H : RdQ Q ρ v) (O : Own h μ ρ) : Q v h := H h μ ρ O Fra.refl
/-- A copy of plain cells. -/
theorem w_copy (O : Own h μ ρ) (W : Pcs ρ0 ρ ns rs) {zs vs : List Value} {f : AW → Prop} (hl : vs.length = zs.length) (ha : allOne vs = true) (hs : setAll zs 0 vs = vs)
    (H : ∀ h' μ' ρ' c, Own h' μ' ρ' → Pcs ρ0 ρ' (c :: ns) (.var h.next vs :: rs) → ρ0 c = none → f h') : oB (AW.wrL (h.addVar zs) h.next 0 vs) f := by
  obtain ⟨μ1, ρ1, c, O1, W1, hc⟩ := w_new O W zs
  refine w_wrL O1 W1 0 (j := 0) rfl (by omega) ha fun h2 ρ2 O2 W2 => ?_
  exact H h2 _ ρ2 c O2 (W2.eq (by simp [hs])) hc
/-- .. and what was there stays. -/
theorem w_copyF (O : Own h μ ρ) (W : Pcs ρ0 ρ ns rs) {zs vs : List Value} {f : AW → Prop} (hl : vs.length = zs.length) (ha : allOne vs = true) (hs : setAll zs 0 vs = vs)
    (H : ∀ h' μ' ρ' c, Own h' μ' ρ' → Pcs ρ0 ρ' (c :: ns) (.var h.next vs :: rs) → ρ0 c = none → Fra [] ρ ρ' → f h') : oB (AW.wrL (h.addVar zs) h.next 0 vs) f := by
  obtain ⟨μ1, ρ1, c, O1, W1, hc⟩ := w_new O p00 zs
  refine w_wrL O1 W1 0 (j := 0) rfl (by omega) ha fun h2 ρ2 O2 W2 => ?_
  have W3 : Pcs ρ ρ2 [c] [.var h.next vs] := W2.eq (by simp [hs])
  exact H h2 _ ρ2 c O2 (W.adopt W3 hc) (W.not0 hc) (W3.fra0 fun d hd => by simp at hd; rw [hd]; exact hc)
theorem oB_bind {α : Type} {x : Option α} {v : α} {f : α → Prop} (h : x = some v) (H : f v) : oB x f := by rw [h]; exact H
namespace Fo
/-- A list of statements that may be read at a place. -/
def Ly (ρ : Store) (f : F) (a : Option Addr) : Prop := ∃ cells, Vw ρ [] a cells ∧ Lies (Vw ρ []) f cells
theorem Ly.keep {f : F} {a : Option Addr} (X : Ly ρ f a) (F : Fra [] ρ ρ') : Ly ρ' f a := by
  obtain ⟨c, h1, h2⟩ := X
  exact ⟨c, h1.keep F, h2.mono fun a l h => h.keep F⟩
theorem Vw.nil : Vw ρ ns none [] := .inl ⟨rfl, rfl⟩
theorem Ly.nil : Ly ρ .nil none := ⟨[], .inl ⟨rfl, rfl⟩, rfl⟩
variable {V : Option Addr → List Value → Prop}
theorem app_lt {pre rest body : F} {op k : Int} {args : List Str} : pre.len < (pre.app (.cons op args k body rest)).len := by rw [F.app_len]; simp [F.len]
/-- The statement at a place, taken up. -/
theorem st_read (O : Own h μ ρ) {pre rest body : F} {op kk : Int} {args : List Str} {a : Option Addr} {c : List Value} {N : Nat} {z : Int} (X : Vw ρ [] a c) (L : Lies (Vw ρ []) (pre.app (.cons op args kk body rest)) c)
    (hz : z = pre.len) (hN : N = (pre.app (.cons op args kk body rest)).len) {f : Int → Option Addr → Nat → Nat → Int → Option Addr → Nat → Nat → Prop}
    (H : ∀ aa ac ba bc, Vw ρ [] aa (strs args) → Ly ρ body ba → f op aa args.length ac kk ba body.len bc) :
    aP a fun m7 m8 => oB (natIdx z N) fun m9 => oB (AW.rd h m7 (m8 + m9 * 4)) fun v10 => vInt .i64 v10 fun n11 => oB (AW.rd h m7 (m8 + m9 * 4 + 1)) fun v12 => vSl v12 fun p13 m14 m15 => oB (AW.rd h m7 (m8 + m9 * 4 + 1 + 1)) fun v16 => vInt .i64 v16 fun n17 =>
      oB (AW.rd h m7 (m8 + m9 * 4 + 1 + 1 + 1)) fun v18 => vSl v18 fun p19 m20 m21 => f n11 p13 m14 m15 n17 p19 m20 m21 := by
  obtain ⟨aa, ac, ba, bc, bcells, v1, v2, v3, c0, c1, c2, c3⟩ := lies_at L
  refine (X.sl O).ix (sz := 4) hz (by rw [hN]; exact L.len) (by omega) (by rw [hN]; exact app_lt) fun i off ea hr => ?_
  have r0 := hr 0 (by omega)
  rw [Nat.add_zero, Nat.add_zero] at r0
  refine oB_bind (r0.trans c0) ?_
  simp only [vInt_int]
  refine oB_bind ((hr 1 (by omega)).trans c1) ?_
  simp only [vSl_slice]
  refine oB_bind ((hr 2 (by omega)).trans c2) ?_
  simp only [vInt_int]
  refine oB_bind ((hr 3 (by omega)).trans c3) ?_
  simp only [vSl_slice]
  exact H aa ac ba bc v1 ⟨_, v2, v3⟩
/-- .. and copied. -/
theorem st_copy (O : Own h μ ρ) {pre rest body : F} {op kk : Int} {args : List Str} {a : Option Addr} {c : List Value} {N : Nat} {z : Int} (X : Vw ρ [] a c) (L : Lies (Vw ρ []) (pre.app (.cons op args kk body rest)) c)
    (hz : z = pre.len) (hN : N = (pre.app (.cons op args kk body rest)).len) {f : AW → Prop}
    (H : ∀ h' μ' ρ' cc aa ac ba bc, Own h' μ' ρ' → Pcs ρ ρ' [cc] [.var h.next [.int .i64 op, .slice aa args.length ac, .int .i64 kk, .slice ba body.len bc]] → ρ cc = none → Fra [] ρ ρ' → Vw ρ' [] aa (strs args) → Ly ρ' body ba → f h') :
    aP a fun m7 m8 => oB (natIdx z N) fun m9 => oB (AW.rd h m7 (m8 + m9 * 4)) fun v10 => vInt .i64 v10 fun n11 => oB (AW.rd h m7 (m8 + m9 * 4 + 1)) fun v12 => vSl v12 fun p13 m14 m15 => oB (AW.rd h m7 (m8 + m9 * 4 + 1 + 1)) fun v16 => vInt .i64 v16 fun n17 =>
      oB (AW.rd h m7 (m8 + m9 * 4 + 1 + 1 + 1)) fun v18 => vSl v18 fun p19 m20 m21 => oB (AW.wrL (AW.addVar h [.int .i64 0, .slice none 0 0, .int .i64 0, .slice none 0 0]) (AW.next h) 0 [.int .i64 n11, .slice p13 m14 m15, .int .i64 n17, .slice p19 m20 m21]) f := by
  refine st_read O X L hz hN fun aa ac ba bc v1 v2 => ?_
  refine w_copy O p00 rfl rfl rfl fun h1 μ1 ρ1 cc O1 W1 hc => ?_
  have F1 : Fra [] ρ ρ1 := W1.fra0 fun c hc' => by simp at hc'; rw [hc']; exact hc
  exact H h1 μ1 ρ1 cc aa ac ba bc O1 W1 hc F1 (v1.keep F1) (v2.keep F1)
/-- What stands at a statement's place. -/
structure StAt (h : AW) (i p : Nat) (op : Int) (aa : Option Addr) (an ac : Nat) (kk : Int) (ba : Option Addr) (bn bc : Nat) : Prop where
  r0 : h.rd i p = some (.int .i64 op)
  r1 : h.rd i (p + 1) = some (.slice aa an ac)
  r2 : h.rd i (p + 1 + 1) = some (.int .i64 kk)
  r3 : h.rd i (p + 1 + 1 + 1) = some (.slice ba bn bc)
theorem Sl.get {i off j : Nat} {l : List Value} {v : Value} (X : Sl h (some ⟨i, off, none⟩) l) (hj : l[j]? = some v) : h.rd i (off + j) = some v := by
  rcases X with ⟨e, _⟩ | ⟨i', off', e, hr⟩
  · cases e
  · cases e
    rw [hr j (List.getElem?_eq_some_iff.1 hj).1, hj]
theorem st_open (O : Own h μ ρ) {pre rest body : F} {op kk : Int} {args : List Str} {a : Option Addr} {c : List Value} {N : Nat} {z : Int} (X : Vw ρ [] a c) (L : Lies (Vw ρ []) (pre.app (.cons op args kk body rest)) c)
    (hz : z = pre.len) (hN : N = (pre.app (.cons op args kk body rest)).len) {f : Nat → Nat → Nat → Prop}
    (H : ∀ i off aa ac ba bc, Vw ρ [] aa (strs args) → Ly ρ body ba → (∀ {h' : AW} {μ' : Paint} {ρ' : Store}, Own h' μ' ρ' → Fra [] ρ ρ' → StAt h' i (off + pre.len * 4) op aa args.length ac kk ba body.len bc) → f i off pre.len) :
    aP a fun m7 m8 => oB (natIdx z N) fun m9 => f m7 m8 m9 := by
  obtain ⟨aa, ac, ba, bc, bcells, v1, v2, v3, c0, c1, c2, c3⟩ := lies_at L
  refine (X.sl O).ix (sz := 4) hz (by rw [hN]; exact L.len) (by omega) (by rw [hN]; exact app_lt) fun i off ea hr => ?_
  refine H i off aa ac ba bc v1 ⟨_, v2, v3⟩ fun {h'} {μ'} {ρ'} O' F' => ?_
  have Y := (X.keep F').sl O'
  rw [ea] at Y
  exact ⟨Sl.get Y c0, by rw [Nat.add_assoc]; exact Sl.get Y c1, by rw [Nat.add_assoc, Nat.add_assoc]; exact Sl.get Y c2, by rw [Nat.add_assoc, Nat.add_assoc, Nat.add_assoc]; exact Sl.get Y c3⟩
/-- Lines of words that may be read. -/
structure Wds where
  a : Option Addr
  cap : Nat
  x : List Str
def Wds.cell (p : Wds) : Value := .slice p.a p.x.length p.cap
structure Lns (ρ : Store) (ps : List Wds) (a : Option Addr) : Prop where
  top : Vw ρ [] a (ps.map Wds.cell)
  each : ∀ p, p ∈ ps → Vw ρ [] p.a (strs p.x)
  caps : ∀ p, p ∈ ps → p.x.length ≤ p.cap
theorem Lns.keep {ps : List Wds} {a : Option Addr} (X : Lns ρ ps a) (F : Fra [] ρ ρ') : Lns ρ' ps a := ⟨X.top.keep F, fun p hp => (X.each p hp).keep F, X.caps⟩
theorem ln_at (O : Own h μ ρ) {ps : List Wds} {a : Option Addr} {N j : Nat} {z : Int} (X : Lns ρ ps a) (hz : z = j) (hN : N = ps.length) (hj : j < ps.length) {f : Option Addr → Nat → Nat → Prop}
    (H : Vw ρ [] ps[j].a (strs ps[j].x) → f ps[j].a ps[j].x.length ps[j].cap) : aP a fun i off => oB (natIdx z N) fun k => oB (h.rd i (off + k * 1)) fun v => vSl v f := by
  refine (X.top.sl O).i1 (v := ps[j].cell) hz (by simp [hN]) (by simp [hj]) ?_
  exact H (X.each _ (List.getElem_mem hj))
theorem wd_at (O : Own h μ ρ) {x : List Str} {a : Option Addr} {N j : Nat} {z : Int} (X : Vw ρ [] a (strs x)) (hz : z = j) (hN : N = x.length) (hj : j < x.length) {f : Str → Prop}
    (H : f x[j]) : aP a fun i off => oB (natIdx z N) fun k => oB (h.rd i (off + k * 1)) fun v => vStr v f := by
  refine (X.sl O).i1 (v := .string x[j]) hz (by simp [hN]) (by simp [hj]) ?_
  exact H
theorem sub_drop {a0 a : Option Addr} {l0 l : List Value} (S : SubOf a0 l0 a l) (m : Nat) : ∃ a', shO a m = some a' ∧ SubOf a0 l0 a' (l.drop m) := by
  obtain ⟨k, n, e, rfl⟩ := S
  match a0, e with
  | none, e =>
    simp only [shO, Option.some.injEq] at e; subst e
    exact ⟨none, rfl, k + m, n - m, rfl, by rw [List.drop_take, List.drop_drop]⟩
  | some ⟨b, off, none⟩, e =>
    simp only [shO, Option.some.injEq] at e; subst e
    exact ⟨some ⟨b, off + k + m, none⟩, rfl, k + m, n - m, by simp [shO, Nat.add_assoc], by rw [List.drop_take, List.drop_drop]⟩
  | some ⟨b, off, some s⟩, e => simp [shO] at e
theorem sub_take {a0 a : Option Addr} {l0 l : List Value} (S : SubOf a0 l0 a l) (m : Nat) : SubOf a0 l0 a (l.take m) := by
  obtain ⟨k, n, e, rfl⟩ := S
  exact ⟨k, min m n, e, by rw [List.take_take]⟩
theorem Vw.drop {a : Option Addr} {l : List Value} (X : Vw ρ ns a l) (m : Nat) : ∃ a', shO a m = some a' ∧ Vw ρ ns a' (l.drop m) := by
  rcases X with ⟨rfl, rfl⟩ | ⟨c, hn, r, hc, a0, l0, S, x⟩
  · exact ⟨none, rfl, .inl ⟨rfl, by simp⟩⟩
  · obtain ⟨a', e, S'⟩ := sub_drop S m
    exact ⟨a', e, .inr ⟨c, hn, r, hc, a0, l0, S', x⟩⟩
theorem Vw.take {a : Option Addr} {l : List Value} (X : Vw ρ ns a l) (m : Nat) : Vw ρ ns a (l.take m) := by
  rcases X with ⟨rfl, rfl⟩ | ⟨c, hn, r, hc, a0, l0, S, x⟩
  · exact .inl ⟨rfl, by simp⟩
  · exact .inr ⟨c, hn, r, hc, a0, l0, sub_take S m, x⟩
end Fo
end Go.Abs
end

section
/- What is played: lines and lists of statements that are not too great; no Go in it. -/
namespace Go.Abs.Fo
open Go.Abs
/-- The words' part of a weight, counted up to a bound. -/
def wA (most : Int) : List Str → Int → Int
  | [], n => n
  | s :: l, n => if n < most then wA most l (n + (1 + (s.size : Int))) else n
/-- How great a list is, counted up to a bound. -/
def wt : F → Int → Int → Int → Int
  | .nil, _, _, n => n
  | .cons _ args _ body rest, most, deep, n =>
    if n < most then (if deep > 60 then most else wt rest most deep (wA most args (n + 1) + wt body (most - wA most args (n + 1)) (deep + 1) 0)) else n
/-- No string, no list too long for the machine. -/
def Fits : F → Prop
  | .nil => True
  | .cons _ args _ body rest => args.length ≤ 140737488355328 ∧ (∀ s, s ∈ args → s.size ≤ 140737488355328) ∧ body.len ≤ 140737488355328 ∧ Fits body ∧ Fits rest
theorem wA_le {most : Int} (hm : most ≤ 262144) : ∀ {l : List Str} {n : Int}, (∀ s, s ∈ l → s.size ≤ 140737488355328) → 0 ≤ n → n ≤ 262144 + 140737488355329 → 0 ≤ wA most l n ∧ wA most l n ≤ 262144 + 140737488355329
  | [], n, _, h0, h1 => ⟨h0, h1⟩
  | s :: l, n, hs, h0, h1 => by
    rw [wA]
    split
    · have := hs s (by simp)
      exact wA_le hm (fun t ht => hs t (by simp [ht])) (by omega) (by omega)
    · exact ⟨h0, h1⟩
theorem wt_le : ∀ {f : F} {most n : Int} {e : Nat}, most ≤ 262144 → Fits f → e ≤ 61 → 0 ≤ n → 0 ≤ wt f most (61 - e : Int) n ∧ (wt f most (61 - e : Int) n ≤ n ∨ wt f most (61 - e : Int) n ≤ (e + 1) * 281474976710656)
  | .nil, most, n, e, hm, _, _, h0 => ⟨h0, .inl (Int.le_refl _)⟩
  | .cons op args k body rest, most, n, e, hm, hf, he, h0 => by
    obtain ⟨f1, f2, f3, f4, f5⟩ := hf
    rw [wt]
    by_cases hn : n < most
    · rw [if_pos hn]
      by_cases hd : (61 - e : Int) > 60
      · rw [if_pos hd]
        exact ⟨by omega, .inr (by omega)⟩
      · rw [if_neg hd]
        obtain ⟨e', rfl⟩ : ∃ e', e = e' + 1 := ⟨e - 1, by omega⟩
        obtain ⟨a1, a2⟩ := wA_le (most := most) hm (l := args) (n := n + 1) f2 (by omega) (by omega)
        have hdd : (61 - ((e' + 1 : Nat) : Int) + 1 : Int) = (61 - e' : Int) := by omega
        rw [hdd]
        obtain ⟨b1, b2⟩ := wt_le (f := body) (most := most - wA most args (n + 1)) (n := 0) (e := e') (by omega) f4 (by omega) (by omega)
        obtain ⟨r1, r2⟩ := wt_le (f := rest) (most := most) (n := wA most args (n + 1) + wt body (most - wA most args (n + 1)) (61 - e') 0) (e := e' + 1) hm f5 he (by omega)
        refine ⟨r1, .inr ?_⟩
        rcases r2 with r2 | r2
        · rcases b2 with b2 | b2 <;> omega
        · exact r2
    · rw [if_neg hn]
      exact ⟨h0, .inl (Int.le_refl _)⟩
/-- The weight itself. -/
def full : F → Nat
  | .nil => 0
  | .cons _ args _ body rest => 1 + (args.map fun s => 1 + s.size).sum + full body + full rest
def fdeep : F → Nat
  | .nil => 0
  | .cons _ _ _ body rest => Nat.max (1 + fdeep body) (fdeep rest)
theorem wA_mono {most : Int} : ∀ {l : List Str} {n : Int}, n ≤ wA most l n
  | [], n => Int.le_refl _
  | s :: l, n => by
    rw [wA]
    split
    · have := wA_mono (most := most) (l := l) (n := n + (1 + (s.size : Int))); omega
    · exact Int.le_refl _
theorem wt_mono : ∀ {f : F} {most deep n : Int}, n ≤ wt f most deep n
  | .nil, _, _, n => Int.le_refl _
  | .cons op args k body rest, most, deep, n => by
    rw [wt]
    split
    · rename_i h1
      split
      · omega
      · have h2 := wA_mono (most := most) (l := args) (n := n + 1)
        have h3 := wt_mono (f := body) (most := most - wA most args (n + 1)) (deep := deep + 1) (n := 0)
        have h4 := wt_mono (f := rest) (most := most) (deep := deep) (n := wA most args (n + 1) + wt body (most - wA most args (n + 1)) (deep + 1) 0)
        omega
    · exact Int.le_refl _
theorem wA_full {most : Int} : ∀ {l : List Str} {n : Int}, wA most l n < most → wA most l n = n + ((l.map fun s => 1 + s.size).sum : Nat)
  | [], n, _ => by simp [wA]
  | s :: l, n, h => by
    rw [wA] at h ⊢
    split at h
    · rename_i h1
      rw [if_pos h1, wA_full h]
      simp; omega
    · omega
theorem wt_full : ∀ {f : F} {most deep n : Int}, wt f most deep n < most → wt f most deep n = n + full f ∧ (fdeep f : Int) ≤ max 0 (61 - deep)
  | .nil, most, deep, n, h => ⟨by simp [wt, full], by simp [fdeep]; omega⟩
  | .cons op args k body rest, most, deep, n, h => by
    rw [wt] at h ⊢
    split at h
    · rename_i h1
      rw [if_pos h1]
      split at h
      · omega
      · rename_i h2
        rw [if_neg h2]
        have m1 := wA_mono (most := most) (l := args) (n := n + 1)
        have m2 := wt_mono (f := body) (most := most - wA most args (n + 1)) (deep := deep + 1) (n := 0)
        have m3 := wt_mono (f := rest) (most := most) (deep := deep) (n := wA most args (n + 1) + wt body (most - wA most args (n + 1)) (deep + 1) 0)
        obtain ⟨r1, r2⟩ := wt_full h
        have e1 := wA_full (most := most) (l := args) (n := n + 1) (by omega)
        obtain ⟨b1, b2⟩ := wt_full (f := body) (most := most - wA most args (n + 1)) (deep := deep + 1) (n := 0) (by omega)
        refine ⟨?_, ?_⟩
        · rw [r1, b1, e1]
          simp only [full]
          push_cast
          omega
        · simp only [fdeep]
          have : ((Nat.max (1 + fdeep body) (fdeep rest) : Nat) : Int) = max (1 + (fdeep body : Int)) (fdeep rest : Int) := by
            show ((max (1 + fdeep body) (fdeep rest) : Nat) : Int) = _
            omega
          rw [this]
          omega
    · omega
theorem sum_mem : ∀ {l : List Nat} {a : Nat}, a ∈ l → a ≤ l.sum
  | x :: l, a, h => by
    rcases List.mem_cons.1 h with rfl | h
    · simp
    · have := sum_mem h; simp; omega
theorem sum_len : ∀ {l : List Nat}, (∀ a, a ∈ l → 1 ≤ a) → l.length ≤ l.sum
  | [], _ => by simp
  | x :: l, h => by
    have := sum_len (l := l) fun a ha => h a (by simp [ha])
    have := h x (by simp)
    simp; omega
end Go.Abs.Fo
end

section
/- Reading lines: what stays as it is; pieces of a call. -/
namespace Go.Abs
variable {h h' : AW} {μ μ' : Paint} {P : Program} {ρ0 ρ ρ' : Store} {ns : List Nat} {rs : List Res} {c : Nat}
/-- What a call made and turned, seen with more names. -/
theorem Pcs.call1 {fs ms : List Nat} {xs ys ys' : List Res} {r : Res} (W : Pcs ρ0 ρ (fs ++ ms) (xs ++ ys)) (hl : fs.length = xs.length) (V : Pcs ρ ρ' (c :: ms) (r :: ys')) (hc : ρ c = none) : Pcs ρ0 ρ' (c :: (fs ++ ms)) (r :: (xs ++ ys')) := by
  have hn := W.notin hc
  have h0 := W.not0 hc
  have l1 := W.len
  have l2 := V.len
  simp only [List.length_append, List.length_cons] at l1 l2
  refine ⟨List.nodup_cons.2 ⟨hn, W.nodup⟩, by simp; omega, fun i d s hd hs => ?_, fun d s hd hs => ?_⟩
  · cases i with
    | zero => exact V.at_ 0 d s (by simpa using hd) (by simpa using hs)
    | succ i =>
      simp only [List.getElem?_cons_succ] at hd hs
      by_cases hi : i < fs.length
      · rw [List.getElem?_append_left hi] at hd
        rw [List.getElem?_append_left (by omega)] at hs
        have h1 : ρ d = some s := W.at_ i d s (by rw [List.getElem?_append_left hi]; exact hd) (by rw [List.getElem?_append_left (by omega)]; exact hs)
        refine V.fra d s (fun hm => ?_) h1
        rcases List.mem_cons.1 hm with e | hm
        · subst e; rw [hc] at h1; cases h1
        · exact (List.nodup_append.1 W.nodup).2.2 d (List.mem_of_getElem? hd) d hm rfl
      · rw [List.getElem?_append_right (by omega)] at hd hs
        rw [← hl] at hs
        exact V.at_ (i - fs.length + 1) d s (by simpa using hd) (by simpa using hs)
  · simp only [List.mem_cons, List.mem_append, not_or] at hd
    refine V.fra d s (fun hm => ?_) (W.fra d s (by simp [hd.2.1, hd.2.2]) hs)
    rcases List.mem_cons.1 hm with e | hm
    · exact hd.1 e
    · exact hd.2.2 hm
theorem Fra.via {ms : List Nat} {ρ'' : Store} (F : Fra [] ρ ρ') (G : Fra ms ρ' ρ'') (hm : ∀ c, c ∈ ms → ρ c = none) : Fra [] ρ ρ'' := fun c r _ hc =>
  G c r (fun x => by rw [hm c x] at hc; cases hc) (F c r (by simp) hc)
theorem Pcs.swap2 {d : Nat} {r s : Res} (W : Pcs ρ0 ρ (c :: d :: ns) (r :: s :: rs)) : Pcs ρ0 ρ (d :: c :: ns) (s :: r :: rs) := by
  have hn := W.nodup
  simp only [List.nodup_cons, List.mem_cons, not_or] at hn
  refine ⟨?_, by have := W.len; simpa using this, fun i e t he ht => ?_, fun e t he ht => W.fra e t (fun hm => he ?_) ht⟩
  · simp only [List.nodup_cons, List.mem_cons, not_or]
    exact ⟨⟨fun e => hn.1.1 e.symm, hn.2.1⟩, hn.1.2, hn.2.2⟩
  · match i, he, ht with
    | 0, he, ht => exact W.at_ 1 e t (by simpa using he) (by simpa using ht)
    | 1, he, ht => exact W.at_ 0 e t (by simpa using he) (by simpa using ht)
    | i + 2, he, ht => exact W.at_ (i + 2) e t (by simpa using he) (by simpa using ht)
  · simp only [List.mem_cons] at hm ⊢
    rcases hm with x | x | x
    · exact .inr (.inl x)
    · exact .inl x
    · exact .inr (.inr x)
theorem Pcs.one {r : Res} (hc : ρ c = some r) : Pcs ρ ρ [c] [r] := Pcs.init (by simp) rfl (by
  intro i d s h1 h2
  cases i with
  | zero => simp at h1 h2; subst h1 h2; exact hc
  | succ i => simp at h1)
theorem Pcs.none (F : Fra [] ρ0 ρ) : Pcs ρ0 ρ [] [] := Pcs.mk (ns := []) (rs := []) List.nodup_nil rfl (by intro i c r h; simp at h) F
namespace Fo
/-- What lies among many. -/
def Vm (vs : List (Option Addr × Nat × Nat × List Value)) (a : Option Addr) (l : List Value) : Prop := (a = none ∧ l = []) ∨ ∃ cap sz, (a, cap, sz, l) ∈ vs
theorem Vm.more {vs ws : List (Option Addr × Nat × Nat × List Value)} {a : Option Addr} {l : List Value} (H : Vm vs a l) (hs : ∀ x, x ∈ vs → x ∈ ws) : Vm ws a l := by
  rcases H with x | ⟨c, s, x⟩
  · exact .inl x
  · exact .inr ⟨c, s, hs _ x⟩
theorem Vm.read {cm : Nat} {vs : List (Option Addr × Nat × Nat × List Value)} (O : Own h μ ρ) (hc : ρ cm = some (.many vs)) {a : Option Addr} {l : List Value} (H : Vm vs a l) : Vw ρ [] a l := by
  rcases H with x | ⟨c, s, x⟩
  · exact .inl x
  · exact .inr (Rd.of_many O (by simp) hc x)
theorem Ly.of {co cm : Nat} {oa : Option Addr} {oc : Nat} {cells : List Value} {vs : List (Option Addr × Nat × Nat × List Value)} {f : F} (O : Own h μ ρ) (h1 : ρ co = some (.sl oa oc 4 cells)) (h2 : ρ cm = some (.many vs)) (L : Lies (Vm vs) f cells) : Ly ρ f oa :=
  ⟨cells, .inr (Rd.of_sl O (by simp) h1), L.mono fun _ _ x => x.read O h2⟩
end Fo
end Go.Abs
end

section
/- Sizes, depths, what may be; lines built piece by piece. No Go in it. -/
namespace Go.Abs
variable {h h' : AW} {μ μ' : Paint} {P : Program} {ρ0 ρ ρ' : Store} {ns : List Nat} {rs : List Res} {c : Nat}
end Go.Abs
namespace Go.Abs.Fo
open Go.Abs
namespace F
def size : F → Nat
  | nil => 0
  | cons _ _ _ b r => 1 + b.size + r.size
/-- Without the statements themselves. -/
def more : F → Nat
  | nil => 0
  | cons _ _ _ b r => b.size + r.more
theorem size_more : ∀ f : F, f.size = f.len + f.more
  | nil => rfl
  | cons _ _ _ b r => by simp only [size, len, more, size_more r]; omega
def deep : F → Nat
  | nil => 0
  | cons op _ _ b r => max (if opensM op = true then 1 + b.deep else 0) r.deep
def fine (op : Int) (args : Nat) (n : Int) : Bool := decide (1 ≤ op) && decide (op ≤ 12) && fitsM op args && decide (0 ≤ n) && decide (n ≤ 1000) && (decide (n = 0) || decide (op = 10))
/-- Each statement is as it must be. -/
def right : F → Nat → Bool
  | nil, _ => true
  | cons op args n b r, d => fine op args.length n && !(opensM op && decide (d = 8)) && (opensM op || decide (b.len = 0)) && b.right (d + 1) && r.right d
def may (f : F) : Bool := f.right 0 && decide (f.size ≤ 256)
theorem size_full : ∀ f : F, f.size ≤ full f
  | nil => Nat.le_refl _
  | cons _ args _ b r => by
    have h1 := size_full b
    have h2 := size_full r
    simp only [size, full]; omega
theorem deep_size : ∀ f : F, f.deep ≤ f.size
  | nil => Nat.le_refl _
  | cons op _ _ b r => by
    have h1 := deep_size b
    have h2 := deep_size r
    simp only [deep, size]
    split <;> omega
end F
end Go.Abs.Fo
end

section
/- Statements as lines, and read again. No Go in it. -/
namespace Go.Abs.Fo
open Go.Abs
/-- The line of a statement. -/
def lineM (op : Int) (args : List Str) (n : Int) : Line := wordM op :: (args ++ (if op = 10 then [digS n.toNat] else []))
namespace F
def lines : F → List Line
  | nil => []
  | cons op args n b r => lineM op args n :: ((if opensM op = true then b.lines ++ [[wEnd]] else []) ++ r.lines)
/-- What is as it must be, whatever its depth. -/
def wf : F → Bool
  | nil => true
  | cons op args n b r => fine op args.length n && (opensM op || decide (b.len = 0)) && b.wf && r.wf
theorem len_zero {f : F} (h : f.len = 0) : f = nil := by
  cases f with
  | nil => rfl
  | cons _ _ _ _ _ => simp [len] at h
theorem right_wf : ∀ (f : F) (d : Nat), d ≤ 8 → f.right d = (f.wf && decide (d + f.deep ≤ 8))
  | nil, d, hd => by simp [right, wf, deep, hd]
  | cons op args n b r, d, hd => by
    simp only [right, wf, deep]
    rw [right_wf r d hd]
    cases hf : fine op args.length n with
    | false => simp
    | true =>
      by_cases ho : opensM op = true
      · simp only [ho, Bool.true_and, Bool.true_or, if_true]
        by_cases h8 : d = 8
        · subst h8
          simp
          intro _ _
          omega
        · rw [right_wf b (d + 1) (by omega)]
          simp only [h8, decide_false, Bool.not_false, Bool.true_and]
          rw [Bool.eq_iff_iff]
          simp only [Bool.and_eq_true, decide_eq_true_eq]
          constructor
          · rintro ⟨⟨a1, a2⟩, a3, a4⟩; exact ⟨⟨a1, a3⟩, by omega⟩
          · rintro ⟨⟨a1, a3⟩, a4⟩; exact ⟨⟨a1, by omega⟩, a3, by omega⟩
      · have ho : opensM op = false := by simpa using ho
        simp only [ho, Bool.false_and, Bool.not_false, Bool.true_and, Bool.false_or, if_false, Bool.false_eq_true]
        by_cases hb : b.len = 0
        · rw [len_zero hb]
          simp [right, wf, len]
        · simp [hb]
theorem may_iff {f : F} : f.may = true ↔ f.wf = true ∧ f.deep ≤ 8 ∧ f.size ≤ 256 := by
  unfold may
  rw [right_wf f 0 (by omega)]
  simp only [Bool.and_eq_true, decide_eq_true_eq, Nat.zero_add]
  constructor
  · rintro ⟨⟨a, b⟩, c⟩; exact ⟨a, b, c⟩
  · rintro ⟨a, b, c⟩; exact ⟨⟨a, b⟩, c⟩
theorem lines_len : ∀ f : F, f.lines.length ≤ 2 * f.size
  | nil => by simp [lines]
  | cons op args n b r => by
    have h1 := lines_len b
    have h2 := lines_len r
    simp only [lines, size, List.length_cons, List.length_append]
    split
    · simp; omega
    · simp; omega
end F
theorem numM_dig : ∀ k : Fin 1001, numM (digS k.1) = (k.1 : Int) := by decide +kernel
theorem opOf_word' : ∀ k : Fin 13, 1 ≤ k.1 → opOf (wordM (k.1 : Int)) = k.1 := by decide +kernel
/-- A statement's line says just the statement. -/
theorem stmt_line {op : Int} {args : List Str} {n : Int} (h : F.fine op args.length n = true) : stmtM (lineM op args n) = ⟨op, args, n, true⟩ ∧ lineM op args n ≠ [wEnd] := by
  unfold F.fine at h
  simp only [Bool.and_eq_true, Bool.or_eq_true, decide_eq_true_eq] at h
  obtain ⟨⟨⟨⟨⟨h1, h2⟩, h3⟩, h4⟩, h5⟩, h6⟩ := h
  obtain ⟨k, rfl⟩ : ∃ k : Nat, op = k := ⟨op.toNat, by omega⟩
  have ho := opOf_word' ⟨k, by omega⟩ (by simp only; omega)
  simp only at ho
  unfold lineM
  refine ⟨?_, fun e => ?_⟩
  · show (if opOf (wordM (k : Int)) = 10 then _ else _) = _
    rw [ho]
    by_cases hk : k = 10
    · subst hk
      rw [if_pos rfl]
      have ha : args = [] := by
        unfold fitsM argsM at h3
        simp at h3
        exact List.eq_nil_of_length_eq_zero (by omega)
      subst ha
      simp only [List.nil_append]
      rw [if_pos (by rfl)]
      obtain ⟨m, rfl⟩ : ∃ m : Nat, n = m := ⟨n.toNat, by omega⟩
      have hn := numM_dig ⟨m, by omega⟩
      simp only at hn
      show (⟨10, [], numM (digS m), decide (numM (digS m) ≥ 0)⟩ : X) = _
      rw [hn]
      simp
    · rw [if_neg hk, if_neg (by omega), List.append_nil]
      have hn : n = 0 := by omega
      subst hn
      rw [h3, decide_eq_true (show 0 < k by omega)]
      rfl
  · have e1 := (List.cons.inj e).1
    rw [e1] at ho
    have : opOf wEnd = 0 := by decide
    omega
theorem bd_fuel : ∀ (n m deep : Nat) (r : List Line) (s : PS), r.length < n → r.length < m → bd n deep r s = bd m deep r s
  | 0, m, deep, r, s => fun h => by omega
  | n + 1, 0, deep, r, s => fun _ h => by omega
  | n + 1, m + 1, deep, r, s => fun hn hm => by
    by_cases he : s.err ≠ 0
    · rw [bd_err he, bd_err he]
    cases r with
    | nil => rw [bd, bd]
    | cons l r =>
      simp only [List.length_cons] at hn hm
      rw [bd, bd, if_neg he, if_neg he]
      simp only
      have h1 := bd_fuel n m (deep + 1) r ⟨s.i + 1, s.many + 1, 0, s.bad⟩ (by omega) (by omega)
      have hl := bd_len n (deep + 1) r ⟨s.i + 1, s.many + 1, 0, s.bad⟩
      have h2 := bd_fuel n m deep (bd n (deep + 1) r ⟨s.i + 1, s.many + 1, 0, s.bad⟩).2.1 (bd n (deep + 1) r ⟨s.i + 1, s.many + 1, 0, s.bad⟩).2.2 (by omega) (by omega)
      have h3 := bd_fuel n m deep r ⟨s.i + 1, s.many + 1, 0, s.bad⟩ (by omega) (by omega)
      rw [h2, h3, h1]
theorem bd_stmt {n deep : Nat} {l : Line} {r : List Line} {s : PS} (he : s.err = 0) (hl : l ≠ [wEnd]) (hx : (stmtM l).ok = true) : bd (n + 1) deep (l :: r) s =
    if s.many + 1 > 256 then (.cons (stmtM l).op (stmtM l).args (stmtM l).n .nil .nil, r, ⟨s.i + 1, s.many + 1, 3, s.i⟩)
    else if opensM (stmtM l).op = true then
      if deep = 8 then (.cons (stmtM l).op (stmtM l).args (stmtM l).n .nil .nil, r, ⟨s.i + 1, s.many + 1, 132, s.i⟩)
      else (.cons (stmtM l).op (stmtM l).args (stmtM l).n (bd n (deep + 1) r ⟨s.i + 1, s.many + 1, 0, s.bad⟩).1 (bd n deep (bd n (deep + 1) r ⟨s.i + 1, s.many + 1, 0, s.bad⟩).2.1 (bd n (deep + 1) r ⟨s.i + 1, s.many + 1, 0, s.bad⟩).2.2).1,
        (bd n deep (bd n (deep + 1) r ⟨s.i + 1, s.many + 1, 0, s.bad⟩).2.1 (bd n (deep + 1) r ⟨s.i + 1, s.many + 1, 0, s.bad⟩).2.2).2)
    else (.cons (stmtM l).op (stmtM l).args (stmtM l).n .nil (bd n deep r ⟨s.i + 1, s.many + 1, 0, s.bad⟩).1, (bd n deep r ⟨s.i + 1, s.many + 1, 0, s.bad⟩).2) := by
  rw [bd, if_neg (by simp [he])]
  simp only
  rw [if_neg hl, if_neg (by simp [hx])]
/-- Lines of statements, and more: the statements are read, or there are too many, or they stand too deep. -/
theorem bd_lines : ∀ (f : F) (d : Nat) (rest : List Line) (s : PS) (n : Nat), f.wf = true → d ≤ 8 → s.err = 0 → s.many ≤ 256 → (f.lines ++ rest).length < n →
    (d + f.deep ≤ 8 → s.many + f.size ≤ 256 → bd n d (f.lines ++ rest) s = (f.app (bd n d rest ⟨s.i + f.lines.length, s.many + f.size, 0, s.bad⟩).1, (bd n d rest ⟨s.i + f.lines.length, s.many + f.size, 0, s.bad⟩).2)) ∧
    (¬ (d + f.deep ≤ 8 ∧ s.many + f.size ≤ 256) → ((bd n d (f.lines ++ rest) s).2.2.err = 3 ∨ (bd n d (f.lines ++ rest) s).2.2.err = 132) ∧ (d + f.deep ≤ 8 → (bd n d (f.lines ++ rest) s).2.2.err = 3))
  | .nil, d, rest, s, n => fun hw hd he hm hn => by
    have hs : (⟨s.i + F.nil.lines.length, s.many + F.nil.size, 0, s.bad⟩ : PS) = s := by
      rw [← he]; rfl
    refine ⟨fun _ _ => ?_, fun h => absurd ⟨by simp [F.deep]; omega, by simp [F.size]; omega⟩ h⟩
    rw [hs]; rfl
  | .cons op args kk b r, d, rest, s, n => fun hw hd he hm hn => by
    simp only [F.wf, Bool.and_eq_true] at hw
    obtain ⟨⟨⟨w1, w2⟩, w3⟩, w4⟩ := hw
    obtain ⟨hs, hne⟩ := stmt_line w1
    obtain ⟨n, rfl⟩ : ∃ m, n = m + 1 := ⟨n - 1, by omega⟩
    have hlen : (F.cons op args kk b r).lines ++ rest = lineM op args kk :: ((if opensM op = true then b.lines ++ [[wEnd]] else []) ++ (r.lines ++ rest)) := by
      simp only [F.lines, List.cons_append, List.append_assoc]
    rw [hlen] at hn ⊢
    simp only [List.length_cons, List.length_append] at hn
    rw [bd_stmt he hne (by rw [hs]), hs]
    simp only [F.deep, F.size]
    by_cases h1 : s.many + 1 > 256
    · rw [if_pos h1]
      exact ⟨fun _ h => by omega, fun _ => ⟨.inl rfl, fun _ => rfl⟩⟩
    rw [if_neg h1]
    by_cases ho : opensM op = true
    · rw [if_pos ho, if_pos ho, if_pos ho] at *
      simp only [List.length_append, List.length_cons, List.length_nil] at hn
      by_cases h8 : d = 8
      · rw [if_pos h8]
        exact ⟨fun h => by omega, fun _ => ⟨.inr rfl, fun h => by omega⟩⟩
      rw [if_neg h8]
      have ass : b.lines ++ [[wEnd]] ++ (r.lines ++ rest) = b.lines ++ ([wEnd] :: (r.lines ++ rest)) := by simp
      rw [ass]
      obtain ⟨B1, B2⟩ := bd_lines b (d + 1) ([wEnd] :: (r.lines ++ rest)) ⟨s.i + 1, s.many + 1, 0, s.bad⟩ n w3 (by omega) rfl (by simp only; omega) (by simp; omega)
      by_cases hb : d + 1 + b.deep ≤ 8 ∧ s.many + 1 + b.size ≤ 256
      · rw [B1 hb.1 hb.2]
        simp only
        obtain ⟨n, rfl⟩ : ∃ m, n = m + 1 := ⟨n - 1, by omega⟩
        rw [show bd (n + 1) (d + 1) ([wEnd] :: (r.lines ++ rest)) ⟨s.i + 1 + b.lines.length, s.many + 1 + b.size, 0, s.bad⟩ = (.nil, r.lines ++ rest, ⟨s.i + 1 + b.lines.length + 1, s.many + 1 + b.size, 0, s.bad⟩) from by
          rw [bd, if_neg (by simp)]
          simp only
          rw [if_pos trivial, if_neg (by omega)]]
        simp only [F.app_nil]
        obtain ⟨R1, R2⟩ := bd_lines r d rest ⟨s.i + 1 + b.lines.length + 1, s.many + 1 + b.size, 0, s.bad⟩ (n + 1) w4 hd rfl (by simp only; omega) (by simp; omega)
        refine ⟨fun g1 g2 => ?_, fun g => ?_⟩
        · rw [R1 (by omega) (by simp only; omega)]
          have e1 : (⟨s.i + 1 + b.lines.length + 1 + r.lines.length, s.many + 1 + b.size + r.size, 0, s.bad⟩ : PS) = ⟨s.i + (F.cons op args kk b r).lines.length, s.many + (1 + b.size + r.size), 0, s.bad⟩ := by
            simp only [F.lines, ho, if_true, List.length_cons, List.length_append, List.length_nil]
            congr 1 <;> omega
          simp only [e1]
          rw [bd_fuel (n + 1) (n + 1 + 1) d rest _ (by omega) (by omega)]
          rfl
        · have := R2 (by simp only; omega)
          exact ⟨this.1, fun g1 => this.2 (by omega)⟩
      · have hB := B2 hb
        refine ⟨fun g1 g2 => by omega, fun _ => ?_⟩
        have hne2 : (bd n (d + 1) (b.lines ++ ([wEnd] :: (r.lines ++ rest))) ⟨s.i + 1, s.many + 1, 0, s.bad⟩).2.2.err ≠ 0 := by
          rcases hB.1 with x | x <;> rw [x] <;> decide
        rw [bd_err hne2]
        exact ⟨hB.1, fun g => hB.2 (by omega)⟩
    · have hb0 : b = .nil := by
        simp only [Bool.not_eq_true] at ho
        rw [ho] at w2
        simp at w2
        exact F.len_zero w2
      subst hb0
      rw [if_neg ho, if_neg ho, if_neg ho] at *
      simp only [List.nil_append, List.length_nil] at hn ⊢
      obtain ⟨R1, R2⟩ := bd_lines r d rest ⟨s.i + 1, s.many + 1, 0, s.bad⟩ n w4 hd rfl (by simp only; omega) (by simp; omega)
      simp only [F.size]
      refine ⟨fun g1 g2 => ?_, fun g => ?_⟩
      · rw [R1 (by omega) (by simp only; omega)]
        have e1 : (⟨s.i + 1 + r.lines.length, s.many + 1 + r.size, 0, s.bad⟩ : PS) = ⟨s.i + (F.cons op args kk .nil r).lines.length, s.many + (1 + 0 + r.size), 0, s.bad⟩ := by
          simp only [F.lines, List.length_cons, List.length_append]
          rw [if_neg ho]
          simp only [List.length_nil]
          congr 1 <;> omega
        simp only [e1]
        rw [bd_fuel n (n + 1) d rest _ (by omega) (by omega)]
        rfl
      · have := R2 (by simp only; omega)
        exact ⟨this.1, fun g1 => this.2 (by omega)⟩
theorem bd_end0 {n : Nat} {s : PS} (he : s.err = 0) : bd (n + 1) 0 [] s = (.nil, [], s) := by
  rw [bd, if_neg (by simp [he])]
  simp
/-- The lines of an action are read as it. -/
theorem parse_lines {f : F} (hw : f.wf = true) : (f.deep ≤ 8 → f.size ≤ 256 → parseM f.lines = (f, 0, 0)) ∧
    (¬ (f.deep ≤ 8 ∧ f.size ≤ 256) → (parseM f.lines).1 = .nil ∧ ((parseM f.lines).2.1 = 3 ∨ (parseM f.lines).2.1 = 132) ∧ (f.deep ≤ 8 → (parseM f.lines).2.1 = 3)) := by
  obtain ⟨A, B⟩ := bd_lines f 0 [] ps0 (f.lines.length + 1) hw (by omega) rfl (by simp [ps0]) (by simp)
  rw [List.append_nil] at A B
  unfold parseM
  simp only
  refine ⟨fun h1 h2 => ?_, fun h => ?_⟩
  · rw [A (by omega) (by simp [ps0]; omega), bd_end0 rfl]
    simp [F.app_nil]
  · have := B (by simp only [ps0]; omega)
    rw [if_pos (by rcases this.1 with x | x <;> rw [x] <;> decide)]
    exact ⟨rfl, this.1, fun g => this.2 (by omega)⟩
end Go.Abs.Fo
end

section
/- Lines of statements are mild; their numbers are digits. No Go in it. -/
namespace Go.Abs
end Go.Abs
namespace Go.Abs.Fo
open Go.Abs
theorem word_len : ∀ k : Fin 13, (wordM (k.1 : Int)).size ≤ 10 := by decide +kernel
end Go.Abs.Fo
end

section
/- Actions as text: how a word is shown; no Go in it. -/
namespace Go.Abs.Fo
/-- May a byte stand in a word without quotes? -/
def bareN (n : Nat) : Bool := !(n == 34) && !(n == 35) && !(n == 58) && !(n == 61) && !(n == 92) && decide (32 < n) && decide (n < 127)
def plainL (l : List UInt8) : Bool := l.all (fun c => bareN c.toNat) && !l.isEmpty
def escL (c : UInt8) : List UInt8 := if c = 10 then [92, 110] else if c = 9 then [92, 116] else if c = 34 then [92, 34] else if c = 92 then [92, 92] else [c]
def quoteL (l : List UInt8) : List UInt8 := 34 :: (l.flatMap escL ++ [34])
def showL (l : List UInt8) : List UInt8 := if plainL l then l else quoteL l
/-- Words, one behind the other, blanks between. -/
def jn : Bool → List Str → List UInt8
  | _, [] => []
  | first, w :: ws => (if first then [] else [32]) ++ (showL w.data.toList ++ jn false ws)
def prL (ls : List Line) : List UInt8 := ls.flatMap fun l => jn true l ++ [10]
theorem esc_len (c : UInt8) : (escL c).length ≤ 2 := by
  unfold escL
  repeat' split
  all_goals simp
theorem flat_len : ∀ l : List UInt8, (l.flatMap escL).length ≤ 2 * l.length
  | [] => by simp
  | c :: l => by
    have h1 := esc_len c
    have h2 := flat_len l
    simp only [List.flatMap_cons, List.length_append, List.length_cons]
    omega
theorem show_len (l : List UInt8) : (showL l).length ≤ 2 * l.length + 2 := by
  unfold showL
  split
  · omega
  · have := flat_len l
    simp only [quoteL, List.length_cons, List.length_append, List.length_nil]
    omega
theorem jn_len : ∀ (b : Bool) (ws : List Str), (jn b ws).length ≤ 3 * (ws.map fun s => 1 + s.size).sum
  | b, [] => by simp [jn]
  | b, w :: ws => by
    have h1 := jn_len false ws
    have h2 := show_len w.data.toList
    have h3 : w.data.toList.length = w.size := rfl
    simp only [jn, List.length_append, List.map_cons, List.sum_cons]
    have : (if b = true then ([] : List UInt8) else [32]).length ≤ 1 := by split <;> simp
    omega
theorem prL_len : ∀ ls : List Line, (prL ls).length ≤ 3 * (ls.map fun l => 1 + (l.map fun s => 1 + s.size).sum).sum
  | [] => by simp [prL]
  | l :: ls => by
    have h1 := prL_len ls
    have h2 := jn_len true l
    simp only [prL] at h1
    simp only [prL, List.flatMap_cons, List.length_append, List.length_cons, List.length_nil, List.map_cons, List.sum_cons]
    omega
end Go.Abs.Fo
end

section
/- Lines cut: what is read of the beginning. -/
namespace Go.Abs.Fo
end Go.Abs.Fo
end

section
/- What is read as a good action is its lines. No Go in it. -/
namespace Go.Abs.Fo
open Go.Abs
end Go.Abs.Fo
end

section
/- A job's text: two jobs of paths and good actions have one text just if they are the same. No Go in it. -/
namespace Go.Abs.Fo
/-- Up to a byte that is in neither. -/
theorem cut_at {c : UInt8} : ∀ {x y : List UInt8} {r r' : List UInt8}, (∀ b, b ∈ x → b ≠ c) → (∀ b, b ∈ y → b ≠ c) → (r = [] ∨ r.head? = some c) → (r' = [] ∨ r'.head? = some c) → x ++ r = y ++ r' → x = y ∧ r = r'
  | [], [], r, r', _, _, _, _, e => ⟨rfl, by simpa using e⟩
  | [], b :: y, r, r', _, hy, hr, _, e => by
    rw [List.nil_append] at e
    subst e
    rcases hr with x | x
    · cases x
    · simp only [List.cons_append, List.head?_cons, Option.some.injEq] at x
      exact absurd x (hy b (by simp))
  | b :: x, [], r, r', hx, _, _, hr, e => by
    rw [List.nil_append] at e
    subst e
    rcases hr with x | x
    · cases x
    · simp only [List.cons_append, List.head?_cons, Option.some.injEq] at x
      exact absurd x (hx b (by simp))
  | b :: x, d :: y, r, r', hx, hy, hr, hr', e => by
    simp only [List.cons_append] at e
    obtain ⟨e1, e2⟩ := List.cons.inj e
    obtain ⟨e3, e4⟩ := cut_at (fun z hz => hx z (by simp [hz])) (fun z hz => hy z (by simp [hz])) hr hr' e2
    exact ⟨by rw [e1, e3], e4⟩
/-- Words, each behind a blank. -/
def sp (ws : List (List UInt8)) : List UInt8 := ws.flatMap fun w => 32 :: w
theorem sp_head (ws : List (List UInt8)) : sp ws = [] ∨ (sp ws).head? = some 32 := by
  cases ws with
  | nil => exact .inl rfl
  | cons w ws => exact .inr rfl
theorem sp_inj : ∀ {x y : List (List UInt8)}, (∀ w, w ∈ x → ∀ b, b ∈ w → b ≠ 32) → (∀ w, w ∈ y → ∀ b, b ∈ w → b ≠ 32) → sp x = sp y → x = y
  | [], [], _, _, _ => rfl
  | [], w :: y, _, _, e => by simp [sp] at e
  | w :: x, [], _, _, e => by simp [sp] at e
  | w :: x, v :: y, hx, hy, e => by
    have e : 32 :: (w ++ sp x) = 32 :: (v ++ sp y) := e
    obtain ⟨_, e⟩ := List.cons.inj e
    obtain ⟨e1, e2⟩ := cut_at (hx w (by simp)) (hy v (by simp)) (sp_head x) (sp_head y) e
    rw [e1, sp_inj (fun w hw => hx w (by simp [hw])) (fun w hw => hy w (by simp [hw])) e2]
/-- Escaped bytes are told apart. -/
theorem esc_one (c : UInt8) : (∃ d, escL c = [92, d] ∧ (d = 110 ∧ c = 10 ∨ d = 116 ∧ c = 9 ∨ d = 34 ∧ c = 34 ∨ d = 92 ∧ c = 92)) ∨ (c ≠ 34 ∧ c ≠ 92 ∧ escL c = [c]) := by
  unfold escL
  by_cases h1 : c = 10
  · exact .inl ⟨110, by rw [if_pos h1], .inl ⟨rfl, h1⟩⟩
  rw [if_neg h1]
  by_cases h2 : c = 9
  · exact .inl ⟨116, by rw [if_pos h2], .inr (.inl ⟨rfl, h2⟩)⟩
  rw [if_neg h2]
  by_cases h3 : c = 34
  · exact .inl ⟨34, by rw [if_pos h3], .inr (.inr (.inl ⟨rfl, h3⟩))⟩
  rw [if_neg h3]
  by_cases h4 : c = 92
  · exact .inl ⟨92, by rw [if_pos h4], .inr (.inr (.inr ⟨rfl, h4⟩))⟩
  rw [if_neg h4]
  exact .inr ⟨h3, h4, rfl⟩
theorem esc_head (c : UInt8) (r : List UInt8) : ∃ d y, escL c ++ r = d :: y ∧ d ≠ 34 := by
  rcases esc_one c with ⟨d, e, _⟩ | ⟨h, _, e⟩
  · exact ⟨92, d :: r, by rw [e]; rfl, by decide⟩
  · exact ⟨c, r, by rw [e]; rfl, h⟩
theorem esc_inj : ∀ {x y r r' : List UInt8}, x.flatMap escL ++ 34 :: r = y.flatMap escL ++ 34 :: r' → x = y ∧ r = r'
  | [], [], r, r', e => ⟨rfl, by simpa using e⟩
  | [], c :: y, r, r', e => by
    rw [List.flatMap_nil, List.nil_append, List.flatMap_cons, List.append_assoc] at e
    obtain ⟨d, z, e1, h⟩ := esc_head c (y.flatMap escL ++ 34 :: r')
    rw [e1] at e
    exact absurd (List.cons.inj e).1.symm h
  | c :: x, [], r, r', e => by
    rw [List.flatMap_nil, List.nil_append, List.flatMap_cons, List.append_assoc] at e
    obtain ⟨d, z, e1, h⟩ := esc_head c (x.flatMap escL ++ 34 :: r)
    rw [e1] at e
    exact absurd (List.cons.inj e).1 h
  | c :: x, b :: y, r, r', e => by
    rw [List.flatMap_cons, List.append_assoc, List.flatMap_cons, List.append_assoc] at e
    have fin : c = b → x.flatMap escL ++ 34 :: r = y.flatMap escL ++ 34 :: r' → c :: x = b :: y ∧ r = r' := fun h1 h2 => by
      obtain ⟨e1, e2⟩ := esc_inj h2
      exact ⟨by rw [h1, e1], e2⟩
    rcases esc_one c with ⟨d, e1, hc⟩ | ⟨h1, h2, e1⟩ <;> rcases esc_one b with ⟨d', e2, hb⟩ | ⟨h3, h4, e2⟩
    · rw [e1, e2] at e
      simp only [List.cons_append, List.nil_append] at e
      obtain ⟨_, e3⟩ := List.cons.inj e
      obtain ⟨ed, e4⟩ := List.cons.inj e3
      refine fin ?_ e4
      clear e e3 e4
      subst ed
      rcases hc with ⟨a1, a2⟩ | ⟨a1, a2⟩ | ⟨a1, a2⟩ | ⟨a1, a2⟩ <;> rcases hb with ⟨b1, b2⟩ | ⟨b1, b2⟩ | ⟨b1, b2⟩ | ⟨b1, b2⟩ <;> first | (rw [a2, b2]; done) | (rw [a1] at b1; exact absurd b1 (by decide))
    · rw [e1, e2] at e
      simp only [List.cons_append, List.nil_append] at e
      exact absurd (List.cons.inj e).1.symm h4
    · rw [e1, e2] at e
      simp only [List.cons_append, List.nil_append] at e
      exact absurd (List.cons.inj e).1 h2
    · rw [e1, e2] at e
      simp only [List.cons_append, List.nil_append] at e
      obtain ⟨h, e⟩ := List.cons.inj e
      exact fin h e
theorem plain_ne {l : List UInt8} (h : plainL l = true) : l ≠ [] ∧ ∀ b, b ∈ l → bareN b.toNat = true := by
  unfold plainL at h
  simp only [Bool.and_eq_true, List.all_eq_true, Bool.not_eq_true', List.isEmpty_eq_false_iff] at h
  exact ⟨h.2, h.1⟩
theorem bare_facts {b : UInt8} (h : bareN b.toNat = true) : b ≠ 32 ∧ b ≠ 34 ∧ b ≠ 10 := by
  refine ⟨?_, ?_, ?_⟩ <;> (intro e; subst e; simp [bareN] at h)
theorem show_inj {x y r r' : List UInt8} (hr : r = [] ∨ r.head? = some 32) (hr' : r' = [] ∨ r'.head? = some 32) (e : showL x ++ r = showL y ++ r') : x = y ∧ r = r' := by
  have mix : ∀ {x y r r' : List UInt8}, plainL x = true → x ++ r = quoteL y ++ r' → False := fun {x y r r'} hp e => by
    obtain ⟨h1, h2⟩ := plain_ne hp
    obtain ⟨b, l, rfl⟩ := List.exists_cons_of_ne_nil h1
    simp only [quoteL, List.cons_append] at e
    exact (bare_facts (h2 b (by simp))).2.1 (List.cons.inj e).1
  unfold showL at e
  by_cases h1 : plainL x = true <;> by_cases h2 : plainL y = true
  · rw [if_pos h1, if_pos h2] at e
    exact cut_at (fun b hb => (bare_facts ((plain_ne h1).2 b hb)).1) (fun b hb => (bare_facts ((plain_ne h2).2 b hb)).1) hr hr' e
  · rw [if_pos h1, if_neg h2] at e
    exact (mix h1 e).elim
  · rw [if_neg h1, if_pos h2] at e
    exact (mix h2 e.symm).elim
  · rw [if_neg h1, if_neg h2] at e
    simp only [quoteL, List.cons_append, List.append_assoc, List.singleton_append, List.nil_append] at e
    exact esc_inj (List.cons.inj e).2
theorem show_ne (x : List UInt8) : showL x ≠ [] := by
  unfold showL
  split
  · rename_i h; exact (plain_ne h).1
  · simp [quoteL]
theorem jnf_head (ws : List Str) : jn false ws = [] ∨ (jn false ws).head? = some 32 := by
  cases ws with
  | nil => exact .inl rfl
  | cons w ws => exact .inr rfl
theorem str_eq {s t : Str} (h : s.data.toList = t.data.toList) : s = t := ByteArray.ext (Array.toList_inj.1 h)
theorem jnf_inj : ∀ {x y : List Str}, jn false x = jn false y → x = y
  | [], [], _ => rfl
  | [], w :: y, e => by simp [jn] at e
  | w :: x, [], e => by simp [jn] at e
  | w :: x, v :: y, e => by
    simp only [jn, Bool.false_eq_true, if_false, List.cons_append, List.nil_append] at e
    obtain ⟨e1, e2⟩ := show_inj (jnf_head x) (jnf_head y) (List.cons.inj e).2
    rw [str_eq e1, jnf_inj e2]
theorem jn_inj {x y : List Str} (e : jn true x = jn true y) : x = y := by
  cases x with
  | nil =>
    cases y with
    | nil => rfl
    | cons w y =>
      simp only [jn, if_true, List.nil_append] at e
      have := congrArg List.length e
      have h := List.length_pos_iff.2 (show_ne w.data.toList)
      simp only [List.length_nil, List.length_append] at this
      omega
  | cons w x =>
    cases y with
    | nil =>
      simp only [jn, if_true, List.nil_append] at e
      have := congrArg List.length e
      have h := List.length_pos_iff.2 (show_ne w.data.toList)
      simp only [List.length_nil, List.length_append] at this
      omega
    | cons v y =>
      simp only [jn, if_true, List.nil_append] at e
      obtain ⟨e1, e2⟩ := show_inj (jnf_head x) (jnf_head y) e
      rw [str_eq e1, jnf_inj e2]
theorem esc_10 (c : UInt8) : ∀ b, b ∈ escL c → b ≠ 10 := fun b hb => by
  unfold escL at hb
  split at hb
  · simp at hb; rcases hb with rfl | rfl <;> decide
  · rename_i h1
    split at hb
    · simp at hb; rcases hb with rfl | rfl <;> decide
    · split at hb
      · simp at hb; rcases hb with rfl | rfl <;> decide
      · split at hb
        · simp at hb; rcases hb with rfl | rfl <;> decide
        · simp at hb; rw [hb]; exact h1
theorem show_10 (x : List UInt8) : ∀ b, b ∈ showL x → b ≠ 10 := fun b hb => by
  unfold showL at hb
  split at hb
  · rename_i h; exact (bare_facts ((plain_ne h).2 b hb)).2.2
  · simp only [quoteL, List.mem_cons, List.mem_append, List.mem_flatMap, List.not_mem_nil, or_false] at hb
    rcases hb with rfl | ⟨c, _, hc⟩ | rfl
    · decide
    · exact esc_10 c b hc
    · decide
theorem jn_10 : ∀ (f : Bool) (ws : List Str), ∀ b, b ∈ jn f ws → b ≠ 10
  | f, [], b, hb => by cases hb
  | f, w :: ws, b, hb => by
    simp only [jn, List.mem_append] at hb
    rcases hb with hb | hb | hb
    · split at hb
      · cases hb
      · simp at hb; subst hb; decide
    · exact show_10 _ b hb
    · exact jn_10 false ws b hb
/-- The code's lines, each behind a tab. -/
def tabL (L : List Line) : List UInt8 := L.flatMap fun l => 9 :: (jn true l ++ [10])
theorem tab_inj : ∀ {x y : List Line}, tabL x = tabL y → x = y
  | [], [], _ => rfl
  | [], l :: y, e => by simp [tabL] at e
  | l :: x, [], e => by simp [tabL] at e
  | l :: x, m :: y, e => by
    have e : 9 :: (jn true l ++ 10 :: tabL x) = 9 :: (jn true m ++ 10 :: tabL y) := by simpa [tabL] using e
    obtain ⟨e1, e2⟩ := cut_at (c := 10) (jn_10 true l) (jn_10 true m) (.inr rfl) (.inr rfl) (List.cons.inj e).2
    rw [jn_inj e1, tab_inj (List.cons.inj e2).2]
/-- A job's text. -/
def hdrW (ts ds : List Str) : List (List UInt8) := ts.map (fun s => showL s.data.toList) ++ [58] :: ds.map fun s => showL s.data.toList
def jobL (ts ds : List Str) (L : List Line) : List UInt8 := [114, 117, 108, 101] ++ (sp (hdrW ts ds) ++ 10 :: tabL L)
/-- What is true of a path. -/
def PathOk (s : Str) : Prop := s.data.toList ≠ [] ∧ ∀ b, b ∈ s.data.toList → bareN b.toNat = true ∧ b ≠ 58
theorem path_show {s : Str} (h : PathOk s) : showL s.data.toList = s.data.toList := by
  unfold showL
  rw [if_pos]
  unfold plainL
  simp only [Bool.and_eq_true, List.all_eq_true, Bool.not_eq_true', List.isEmpty_eq_false_iff]
  exact ⟨fun b hb => (h.2 b hb).1, h.1⟩
theorem hdr_inj {ts ds ts' ds' : List Str} (h1 : ∀ s, s ∈ ts → PathOk s) (h2 : ∀ s, s ∈ ts' → PathOk s) (e : hdrW ts ds = hdrW ts' ds') : ts.map (fun s => showL s.data.toList) = ts'.map (fun s => showL s.data.toList) ∧ ds.map (fun s => showL s.data.toList) = ds'.map (fun s => showL s.data.toList) := by
  unfold hdrW at e
  have no : ∀ {ts : List Str}, (∀ s, s ∈ ts → PathOk s) → ∀ w, w ∈ ts.map (fun s => showL s.data.toList) → w ≠ [58] := fun {ts} h w hw => by
    obtain ⟨s, hs, rfl⟩ := List.mem_map.1 hw
    have hp := h s hs
    rw [path_show hp]
    intro x
    exact (hp.2 58 (by rw [x]; simp)).2 rfl
  have g1 := no h1
  have g2 := no h2
  generalize ts.map (fun s => showL s.data.toList) = x at *
  generalize ts'.map (fun s => showL s.data.toList) = y at *
  generalize ds.map (fun s => showL s.data.toList) = r at *
  generalize ds'.map (fun s => showL s.data.toList) = r' at *
  clear h1 h2
  induction x generalizing y with
  | nil =>
    cases y with
    | nil => exact ⟨rfl, (List.cons.inj e).2⟩
    | cons w y => exact absurd (List.cons.inj e).1.symm (g2 w (by simp))
  | cons v x ih =>
    cases y with
    | nil => exact absurd (List.cons.inj e).1 (g1 v (by simp))
    | cons w y =>
      obtain ⟨e1, e2⟩ := List.cons.inj e
      obtain ⟨a, b⟩ := ih (fun w hw => g1 w (by simp [hw])) y (fun w hw => g2 w (by simp [hw])) e2
      exact ⟨by rw [e1, a], b⟩
theorem map_path : ∀ {x y : List Str}, (∀ s, s ∈ x → PathOk s) → (∀ s, s ∈ y → PathOk s) → x.map (fun s => showL s.data.toList) = y.map (fun s => showL s.data.toList) → x = y
  | [], [], _, _, _ => rfl
  | [], _ :: _, _, _, e => by cases e
  | _ :: _, [], _, _, e => by cases e
  | s :: x, t :: y, hx, hy, e => by
    simp only [List.map_cons] at e
    obtain ⟨e1, e2⟩ := List.cons.inj e
    rw [path_show (hx s (by simp)), path_show (hy t (by simp))] at e1
    rw [str_eq e1, map_path (fun s hs => hx s (by simp [hs])) (fun s hs => hy s (by simp [hs])) e2]
theorem sp_mem {ws : List (List UInt8)} {c : UInt8} (hc : c ≠ 32) (h : ∀ w, w ∈ ws → ∀ b, b ∈ w → b ≠ c) : ∀ b, b ∈ sp ws → b ≠ c := fun b hb => by
  obtain ⟨w, hw, hb⟩ := List.mem_flatMap.1 hb
  rcases List.mem_cons.1 hb with rfl | hb
  · exact fun e => hc e.symm
  · exact h w hw b hb
theorem hdr_mem {ts ds : List Str} {c : UInt8} (h58 : c ≠ 58) (h : ∀ s, s ∈ ts ∨ s ∈ ds → ∀ b, b ∈ showL s.data.toList → b ≠ c) : ∀ w, w ∈ hdrW ts ds → ∀ b, b ∈ w → b ≠ c := fun w hw b hb => by
  unfold hdrW at hw
  rcases List.mem_append.1 hw with x | x
  · obtain ⟨s, hs, rfl⟩ := List.mem_map.1 x
    exact h s (.inl hs) b hb
  · rcases List.mem_cons.1 x with rfl | x
    · simp at hb; subst hb; exact fun e => h58 e.symm
    · obtain ⟨s, hs, rfl⟩ := List.mem_map.1 x
      exact h s (.inr hs) b hb
/-- One text: one job. -/
theorem job_inj {ts ds ts' ds' : List Str} {L L' : List Line} (h1 : ∀ s, s ∈ ts ∨ s ∈ ds → PathOk s) (h2 : ∀ s, s ∈ ts' ∨ s ∈ ds' → PathOk s) (e : jobL ts ds L = jobL ts' ds' L') : ts = ts' ∧ ds = ds' ∧ L = L' := by
  have e := List.append_cancel_left (show [114, 117, 108, 101] ++ (sp (hdrW ts ds) ++ 10 :: tabL L) = [114, 117, 108, 101] ++ (sp (hdrW ts' ds') ++ 10 :: tabL L') from e)
  have no : ∀ {ts ds : List Str} {c : UInt8}, (c = 32 ∨ c = 10) → (∀ s, s ∈ ts ∨ s ∈ ds → PathOk s) → ∀ w, w ∈ hdrW ts ds → ∀ b, b ∈ w → b ≠ c := fun {ts ds c} hc h => hdr_mem (by rcases hc with rfl | rfl <;> decide) fun s hs b hb => by
    rw [path_show (h s hs)] at hb
    have := bare_facts ((h s hs).2 b hb).1
    rcases hc with rfl | rfl
    · exact this.1
    · exact this.2.2
  obtain ⟨e1, e2⟩ := cut_at (c := 10) (sp_mem (by decide) (no (.inr rfl) h1)) (sp_mem (by decide) (no (.inr rfl) h2)) (.inr rfl) (.inr rfl) e
  have e3 := sp_inj (no (.inl rfl) h1) (no (.inl rfl) h2) e1
  obtain ⟨a, b⟩ := hdr_inj (fun s hs => h1 s (.inl hs)) (fun s hs => h2 s (.inl hs)) e3
  exact ⟨map_path (fun s hs => h1 s (.inl hs)) (fun s hs => h2 s (.inl hs)) a, map_path (fun s hs => h1 s (.inr hs)) (fun s hs => h2 s (.inr hs)) b, tab_inj (List.cons.inj e2).2⟩
/-- One action's lines: one action. -/
theorem lines_inj {f g : F} (hf : f.may = true) (hg : g.may = true) (e : f.lines = g.lines) : f = g := by
  obtain ⟨w1, d1, s1⟩ := F.may_iff.1 hf
  obtain ⟨w2, d2, s2⟩ := F.may_iff.1 hg
  have h1 := (parse_lines w1).1 d1 s1
  have h2 := (parse_lines w2).1 d2 s2
  rw [e, h2] at h1
  exact (Prod.mk.inj h1).1.symm
end Go.Abs.Fo
end

section
/- The scheduler as it is said: tasks, slots, a queue, who waits in which order. No Go in it. -/
namespace Go.Abs.Sch
open Go.Abs

structure Tk where
  key : Str
  st : Nat
  on : Str
  since : Nat
  starts : Nat
structure M where
  tasks : List Tk
  slots : List Str
  queue : List Str
  clock : Nat

/-- The first slot that is not idle, from a place on, around. -/
def pickFrom (slots : List Str) (a : Nat) : Nat → Nat → Option Str
  | 0, _ => none
  | n + 1, i => if slots.getD ((a + i) % slots.length) e0 = e0 then pickFrom slots a n (i + 1) else some (slots.getD ((a + i) % slots.length) e0)
def pickAt (w : Nat) (n : Int) : Nat := (n % (w : Int)).toNat
def pick (m : M) (n : Int) : Option Str := pickFrom m.slots (pickAt m.slots.length n) m.slots.length 0
def less (x y : Str) : Bool := Op.bytesLess x.data.toList y.data.toList
/-- Who waits for a key, and began to ahead of the one found so far. -/
def ahead (l : List Tk) (f : Option Nat) (t : Tk) : Bool := match f with
  | some j => decide (t.since < ((l[j]?).map Tk.since).getD 0)
  | none => true
end Go.Abs.Sch
end

section
/- The scheduler as it is made: a task knows who waits for it; how many tasks are in each state is counted. No Go in it. -/
namespace Go.Abs.Sch
open Go.Abs
structure MT where
  key : Str
  st : Nat
  on : Str
  ws : List Str
  starts : Nat
structure MI where
  tasks : List MT
  slots : List Str
  queue : List Str
def mix (l : List MT) (k : Str) : Option Nat := l.findIdx? fun t => bEq t.key k
def mupL (l : List MT) (k : Str) (f : MT → MT) : List MT := l.map fun t => if t.key = k then f t else t
def ready (m : MI) (k : Str) : MI := { m with tasks := mupL m.tasks k fun t => { t with st := 1 }, queue := m.queue ++ [k] }
end Go.Abs.Sch
end

section
/- A string's copy in bytes of its own, and a string of them. -/
namespace Go.Abs
variable {h h' : AW} {μ μ' : Paint} {P : Program} {ρ0 ρ ρ' : Store} {ns : List Nat} {rs : List Res} {c : Nat}
theorem one_bytes (l : List UInt8) : allOne (ofBytes l) = true := allOne_of fun v hv => by
  obtain ⟨b, _, rfl⟩ := List.mem_map.1 hv
  rfl
end Go.Abs
end

section
/- The pieces of a strings.Builder: a block whose type is told, bytes whose type is told. -/
namespace Go.Abs
variable {h h' : AW} {μ μ' : Paint} {P : Program} {ρ0 ρ ρ' : Store} {ns : List Nat} {rs : List Res} {c d : Nat}
/-- Where bytes begin, and of which type they are. -/
def basA (b : Option Nat) : Option Addr := match b with | some i => some ⟨i, 0, none⟩ | none => none
def tyR (b : Option Nat) (e : TypeId) : Res := match b with | some i => .ty i e | none => .many []
def TyAt (h : AW) (b : Option Nat) (e : TypeId) : Prop := ∀ i, b = some i → i < h.next ∧ h.tys.get? i = some e
theorem tyR_holds {b : Option Nat} {e : TypeId} : (tyR b e).Holds h μ c ↔ TyAt h b e := by
  cases b with
  | none => exact ⟨fun _ i x => (by cases x), fun _ => ⟨fun a cap sz l hm => (by simp at hm), Sep.nil⟩⟩
  | some i => exact ⟨fun H j x => (by cases x; exact H), fun H => H i rfl⟩
theorem wr_tys {i p : Nat} {v : Value} (hw : h.wr i p v = some h') : h'.tys = h.tys ∧ h'.next = h.next := by
  unfold AW.wr at hw
  split at hw
  · cases hw
  split at hw
  · split at hw <;> cases hw; exact ⟨rfl, rfl⟩
  · split at hw
    · split at hw <;> cases hw; exact ⟨rfl, rfl⟩
    · cases hw
  · cases hw
theorem wrL_tys {i : Nat} : ∀ {l : List Value} {h h' : AW} {p : Nat}, h.wrL i p l = some h' → h'.tys = h.tys ∧ h'.next = h.next
  | [], h, h', p, e => by cases e; exact ⟨rfl, rfl⟩
  | v :: l, h, h', p, e => by
    simp only [AW.wrL] at e
    split at e
    · rename_i h2 e2
      obtain ⟨a1, a2⟩ := wr_tys e2
      obtain ⟨b1, b2⟩ := wrL_tys e
      exact ⟨b1.trans a1, b2.trans a2⟩
    · cases e
theorem newRow_next {sz j : Nat} {l : List Value} (e : h.newRow sz l = some (j, h')) : j < h'.next := by
  unfold AW.newRow at e
  split at e
  · cases e; exact Nat.lt_add_of_pos_right (by decide)
  · cases e
/-- append keeps what is told of bytes. -/
theorem appendV_ty {e : TypeId} {te : TI} {b : Option Nat} {n m cap : Nat} {new : List Value} {v : Value} (h2 : tiOf P e = some te) (Y : TyAt h b e) (hr : appendV P h e (.slice (basA b) n cap) m new = some (v, h')) :
    ∃ b' n' c', v = .slice (basA b') n' c' ∧ TyAt h' b' e := by
  have tagged : ∀ {h2 : AW} {j : Nat}, j < h2.next → TyAt (h2.tag j e) (some j) e := fun hj i x => by
    cases x; exact ⟨hj, T.get?_set_same _ _ _⟩
  unfold appendV at hr
  rw [h2] at hr
  simp only at hr
  split at hr
  · cases hr
  split at hr
  · split at hr
    · rename_i i off eb
      split at hr
      · rename_i h3 e3
        cases hr
        obtain ⟨a1, a2⟩ := wrL_tys e3
        exact ⟨b, _, _, by rw [eb], fun i x => by rw [a1, a2]; exact Y i x⟩
      · cases hr
    · cases hr
    · rename_i eb
      cases hr
      exact ⟨b, _, _, by rw [eb], Y⟩
  · split at hr
    · cases hr
    split at hr
    · split at hr
      · rename_i j h3 _ e3
        cases hr
        exact ⟨some j, _, _, rfl, tagged (newRow_next e3)⟩
      · cases hr
    · rename_i i off eb
      have hb : b = some i ∧ off = 0 := by
        cases b with
        | none => cases eb
        | some k => cases eb; exact ⟨rfl, rfl⟩
      obtain ⟨rfl, rfl⟩ := hb
      obtain ⟨_, hty⟩ := Y i rfl
      split at hr
      · split at hr
        · split at hr
          · rename_i j h3 e3
            cases hr
            exact ⟨some j, _, _, rfl, tagged (newRow_next e3)⟩
          · cases hr
        · cases hr
      · split at hr
        · split at hr
          · cases hr
            refine ⟨some h.next, _, _, rfl, ?_⟩
            rw [hty]
            unfold AW.tagAs
            simp only [Nat.beq_refl]
            exact tagged (Nat.lt_succ_self _)
          · cases hr
        · cases hr
      · cases hr
    · cases hr
theorem appB_str {ty ts e : TypeId} {tj : TI} {te : TI} {ag : Bool} {s1 b1 : Nat} {z1 : Option Value} (h1 : tiOf P ty = some ⟨.slice e, ag, s1, b1, z1⟩) (h2 : tiOf P e = some te) (h3 : tiOf P ts = some tj) (hi : isInt tj.und = false) {a : Option Addr} {n cap : Nat} {s : ByteArray} :
    appendB P h ⟨[ty, ts]⟩ [.slice a n cap, .string s] = appendV P h e (.slice a n cap) s.size (ofBytes s.data.toList) := by
  unfold appendB
  simp only
  rw [h1, h3]; simp only
  rw [h2]; simp only
  rw [hi]
theorem appB_sl {ty e : TypeId} {te : TI} {ag : Bool} {s1 b1 : Nat} {z1 : Option Value} (h1 : tiOf P ty = some ⟨.slice e, ag, s1, b1, z1⟩) (h2 : tiOf P e = some te) (hs : 0 < te.size) {a b : Option Addr} {l n m cap : Nat} {new : List Value} (X : Sl h b new) (hn : new.length = n * te.size) :
    appendB P h ⟨[ty, ty]⟩ [.slice a l cap, .slice b n m] = appendV P h e (.slice a l cap) n new := by
  unfold appendB
  simp only
  rw [h1]; simp only
  rw [h2]; simp only [isInt]
  rcases X with ⟨rfl, rfl⟩ | ⟨i, off, rfl, hr⟩
  · have : n = 0 := by
      rcases Nat.eq_zero_or_pos n with x | x
      · exact x
      · have := Nat.mul_pos x hs; simp at hn; omega
    subst this
    simp only [Nat.beq_refl]
  · simp only
    rw [← hn, Sl.rdN hr]
theorem w_apTy (O : Own h μ ρ) (W : Pcs ρ0 ρ ns rs) (i j : Nat) (hij : i ≠ j) {e : TypeId} {u : TypeDesc} {g : Bool} {bt : Nat} {z : Value} (h2 : tiOf P e = some ⟨u, g, 1, bt, some z⟩) {b : Option Nat} {cap : Nat} {l : List Value} (hi : rs[i]? = some (.sl (basA b) cap 1 l)) (hj : rs[j]? = some (tyR b e))
    {n m : Nat} (hl : n = l.length) {new : List Value} (hn : m = new.length) (ha : allOne new = true) (r1 : (n + m) * bt ≤ 70368744177664) (r2 : n + m ≤ 4611686018427387904) {f : Value → AW → Prop}
    (H : ∀ b' cap' h' μ' ρ', Own h' μ' ρ' → Pcs ρ0 ρ' ns ((rs.set i (.sl (basA b') cap' 1 (l ++ new))).set j (tyR b' e)) → f (.slice (basA b') (n + m) cap') h') : oP (appendV P h e (.slice (basA b) n cap) m new) f := by
  obtain ⟨c, hcn, hc⟩ := W.get i hi
  obtain ⟨d, hdn, hd⟩ := W.get j hj
  have M : OM h μ c (basA b) cap 1 l := O.holds _ _ hc
  have T : TyAt h b e := tyR_holds.1 (O.holds _ _ hd)
  have hcap : n ≤ cap := by have := M.le; omega
  obtain ⟨a', cap', h', e', M', _, C⟩ := appendV_ok (P := P) h2 rfl M (l := n) (n := m) (new := new) (by simp [hl]) (by simp [hn]) ha r1 r2 hcap
  obtain ⟨b', n', c', ev, T'⟩ := appendV_ty h2 T e'
  cases ev
  rw [e']
  have W1 := W.set i hcn (.sl (basA b') cap' 1 (l ++ new))
  have O1 := O.step (r := .sl (basA b') cap' 1 (l ++ new)) C M'
  have O2 := O1.step (c := d) (r := tyR b' e) Chg.refl (tyR_holds.2 T')
  exact H b' cap' h' _ _ O2 (W1.set j hdn _)
/-- append of bytes in a slice. -/
theorem w_appT (O : Own h μ ρ) (W : Pcs ρ0 ρ ns rs) (i j : Nat) (hij : i ≠ j) {ty e : TypeId} {u : TypeDesc} {g ag : Bool} {bt s1 b1 : Nat} {z1 : Option Value} {z : Value} (h1 : tiOf P ty = some ⟨.slice e, ag, s1, b1, z1⟩) (h2 : tiOf P e = some ⟨u, g, 1, bt, some z⟩) {b : Option Nat} {cap : Nat} {l : List Value} (hi : rs[i]? = some (.sl (basA b) cap 1 l)) (hj : rs[j]? = some (tyR b e))
    {n m k : Nat} (hl : n = l.length) {bb : Option Addr} {new : List Value} (X : Sl h bb new) (hn : m = new.length) (ha : allOne new = true) (r1 : (n + m) * bt ≤ 70368744177664) (r2 : n + m ≤ 4611686018427387904) {f : Value → AW → Prop}
    (H : ∀ b' cap' h' μ' ρ', Own h' μ' ρ' → Pcs ρ0 ρ' ns ((rs.set i (.sl (basA b') cap' 1 (l ++ new))).set j (tyR b' e)) → f (.slice (basA b') (n + m) cap') h') : oP (appendB P h ⟨[ty, ty]⟩ [.slice (basA b) n cap, .slice bb m k]) f := by
  rw [appB_sl h1 h2 Nat.one_pos X (by simp [hn])]
  exact w_apTy O W i j hij h2 hi hj hl hn ha r1 r2 H
/-- append of a string's bytes. -/
theorem w_appS (O : Own h μ ρ) (W : Pcs ρ0 ρ ns rs) (i j : Nat) (hij : i ≠ j) {ty ts e : TypeId} {u : TypeDesc} {g ag : Bool} {bt s1 b1 : Nat} {z1 : Option Value} {z : Value} {tj : TI} (h1 : tiOf P ty = some ⟨.slice e, ag, s1, b1, z1⟩) (h2 : tiOf P e = some ⟨u, g, 1, bt, some z⟩) (h3 : tiOf P ts = some tj) (hnt : isInt tj.und = false) {b : Option Nat} {cap : Nat} {l : List Value} (hi : rs[i]? = some (.sl (basA b) cap 1 l)) (hj : rs[j]? = some (tyR b e))
    {n : Nat} {s : ByteArray} (hl : n = l.length) (r1 : (n + s.size) * bt ≤ 70368744177664) (r2 : n + s.size ≤ 4611686018427387904) {f : Value → AW → Prop}
    (H : ∀ b' cap' h' μ' ρ', Own h' μ' ρ' → Pcs ρ0 ρ' ns ((rs.set i (.sl (basA b') cap' 1 (l ++ ofBytes s.data.toList))).set j (tyR b' e)) → f (.slice (basA b') (n + s.size) cap') h') : oP (appendB P h ⟨[ty, ts]⟩ [.slice (basA b) n cap, .string s]) f := by
  rw [appB_str h1 h2 h3 hnt]
  exact w_apTy O W i j hij h2 hi hj hl (by unfold ofBytes; rw [List.length_map]; rfl) (one_bytes _) r1 r2 H
/-- A new block whose type is told. -/
theorem w_newT (O : Own h μ ρ) (W : Pcs ρ0 ρ ns rs) (l : List Value) (t : TypeId) : ∃ μ' ρ' c d, Own ((h.addVar l).tag h.next t) μ' ρ' ∧ Pcs ρ0 ρ' (d :: c :: ns) (.ty h.next t :: .var h.next l :: rs) ∧ ρ0 c = none ∧ ρ0 d = none := by
  obtain ⟨c, hc⟩ := O.fresh
  have O1 : Own ((h.addVar l).tag h.next t) (mkNew μ h.next c) (ρ.upd c (.var h.next l)) := by
    refine O.step (r := .var h.next l) (addVar_chg.tag (Nat.le_refl _)) ⟨Nat.lt_succ_self _, mkNew_new (Nat.le_refl _), ?_⟩
    obtain ⟨tt, ho, hx⟩ := addVar_at (h := h) (l := l)
    exact ⟨tt, ho, hx⟩
  have W1 := W.new hc (.var h.next l)
  obtain ⟨d, hd⟩ := O1.fresh
  have O2 := O1.step (c := d) (r := .ty h.next t) Chg.refl ⟨Nat.lt_succ_self _, T.get?_set_same _ _ _⟩
  exact ⟨_, _, c, d, O2, W1.new hd _, W.not0 hc, W1.not0 hd⟩
/-- A pointer taken for one without a type. -/
theorem w_toU (O : Own h μ ρ) (W : Pcs ρ0 ρ ns rs) (i : Nat) {p : Nat} {l : List Value} (hr : rs[i]? = some (.var p l)) (h0 : 0 < l.length) {s d t : TypeId} {a1 a2 : Bool} {s1 s2 b1 b2 : Nat} {z1 z2 : Option Value} {te : TI} (h1 : tiOf P s = some ⟨.pointer t, a1, s1, b1, z1⟩) (h2 : tiOf P d = some ⟨.unsafePointer, a2, s2, b2, z2⟩) (h3 : tiOf P t = some te) (h4 : Nat.beq te.size 0 = false) {f : Value → AW → Prop}
    (H : f (.pointer (some ⟨p, 0, none⟩)) h) : oP (convA P h s d (.pointer (some ⟨p, 0, none⟩))) f := by
  obtain ⟨c, _, hc⟩ := W.get i hr
  have e : h.rd p 0 = some l[0] := by rw [O.rd hc, List.getElem?_eq_getElem h0]
  unfold convA
  rw [h1, h2]; simp only
  rw [h3, e]; simp only
  rw [h4]
  exact H
/-- .. and back. -/
theorem w_fromU (O : Own h μ ρ) (W : Pcs ρ0 ρ ns rs) (i j : Nat) {p : Nat} {l : List Value} {t : TypeId} (hr : rs[i]? = some (.var p l)) (hj : rs[j]? = some (.ty p t)) {s d : TypeId} {a1 a2 : Bool} {s1 s2 b1 b2 : Nat} {z1 z2 : Option Value} {te : TI} (h1 : tiOf P s = some ⟨.unsafePointer, a1, s1, b1, z1⟩) (h2 : tiOf P d = some ⟨.pointer t, a2, s2, b2, z2⟩) (h3 : tiOf P t = some te) (h4 : Nat.ble 1 te.size = true) (h0 : te.size ≤ l.length) {f : Value → AW → Prop}
    (H : f (.pointer (some ⟨p, 0, none⟩)) h) : oP (convA P h s d (.pointer (some ⟨p, 0, none⟩))) f := by
  obtain ⟨c, _, hc⟩ := W.get i hr
  obtain ⟨c2, _, hc2⟩ := W.get j hj
  have hs := Nat.le_of_ble_eq_true h4
  have e : h.rd p (te.size - 1) = some (l[te.size - 1]'(by omega)) := by rw [O.rd hc, List.getElem?_eq_getElem]
  obtain ⟨_, ht⟩ := O.holds _ _ hc2
  unfold convA
  rw [h1, h2]; simp only
  rw [ht, h3]; simp only
  rw [e, h4, Nat.beq_refl, Nat.beq_refl]
  exact H
end Go.Abs
end

section
/- Tests run apart: what they come to. -/
namespace Go.Abs
variable {P : Program} {h : AW}
def closedB (P : Program) (n : Nat) (f : FuncId) : Option Value :=
  match closedOf P f with
  | some (fn, c) => closedRes P fn (run P (callF P n) n c { n := Nat.max ([] : List Value).length fn.ntmps, t := T.ofList [] } ⟨P.globals.size, .nil, .nil, .nil⟩)
  | none => none
def isTrue : Option Value → Bool
  | some (.bool b) => b
  | _ => false
theorem own_call {n : Nat} {f : FuncId} (h1 : (bodyOf P f).isNone = true) (h2 : isTrue (closedB P n f) = true) : callF P (n + 1) f [] h = some (.bool true, h) := by
  unfold callF
  have h1 : bodyOf P f = none := by simpa using h1
  rw [h1]
  simp only
  unfold noBodyV
  simp only
  unfold isTrue at h2
  split at h2
  · rename_i b hb
    subst h2
    unfold closedB at hb
    split at hb
    · rename_i fn c hc
      rw [hc]
      simp only
      rw [hb]
    · cases hb
  · cases h2
theorem own_evq {n : Nat} {f : FuncId} (h1 : (bodyOf P f).isNone = true) (h2 : isTrue (closedB P n f) = true) {Q : Value → AW → Prop} (hq : Q (.bool true) h) : EvQ P f [] h Q := by
  unfold EvQ
  exact ⟨_, _, ⟨n + 1, own_call h1 h2⟩, hq⟩
end Go.Abs
end
